/- Names: all names, rising. -/
import Derived.Test.YthjpjekaiflibaaDisk7
import Derived.Sort.OwnSorted
import Derived.Sort.KeysCollected
namespace Go.Proofs.Ythjpjekaiflibaa
open Go.RowKit Go.Sort
open Go.Proofs (encStr)

theorem infoS : (Try.prog.info? 9).map (fun i => (i.zero, i.size, i.bytes)) = some (some (.string ByteArray.empty), 1, 16) := by kernel_rfl
theorem uStrs : Try.prog.underlying 50 = some (.slice 9) := by kernel_rfl
/-- A slice of strings. -/
def St (w : World) (v : Value) (g : Option Nat) (ss : List (List UInt8)) : Prop := Sl w 9 1 v g ss.length (ss.map encStr)
theorem St.fr {S : Nat → Prop} {w w' : World} {v : Value} {g : Option Nat} {ss : List (List UInt8)} (h : St w v g ss) (hF : Fr S w w') (hs : ∀ k, g = some k → ¬ S k) : St w' v g ss := Sl.fr h hF hs
theorem encStr_one (ss : List (List UInt8)) : ∀ u ∈ ss.map encStr, u.oneCell' = true := by
  intro u hu
  obtain ⟨c, _, rfl⟩ := List.mem_map.1 hu
  rfl
def sortL (ss : List (List UInt8)) : List (List UInt8) := ss.mergeSort fun x y => decide (x ≤ y)
theorem string_enc (s : ByteArray) : Value.string s = encStr s.data.toList := by simp [encStr]

/-- Behind a sort the same slice has the same cells, sorted. -/
theorem Sl.sorted {α : Type} [Inhabited α] (enc : α → Value) {w : World} {e : TypeId} {g o cap k : Nat} {cur : Array Value} {n : Nat} {os : Array Obj} (ts : List α) (hl : ts.length = k)
    (hb : w.heap[g]? = some (.cells cur e (0, 0))) (h1 : k ≤ cap) (h2 : cap ≤ maxLen) (h3 : o + cap * 1 ≤ cur.size) :
    Sl (grow (putRow enc (Sort.ahead w n) g o ts.toArray) os) e 1 (.slice (some ⟨g, o, none⟩) k cap) (some g) k (ts.map enc) ∧ Fr (Is (some g)) w (grow (putRow enc (Sort.ahead w n) g o ts.toArray) os) := by
  have hg : g < w.heap.size := (Array.getElem?_eq_some_iff.1 hb).1
  refine ⟨⟨by simp [hl], .inr ⟨g, o, cap, putCells enc o ts.toArray cur, rfl, rfl, ?_, h1, h2, by simpa [putCells] using h3, ?_⟩⟩, ⟨rfl, rfl, rfl, by simp, fun j hj hs => ?_⟩⟩
  · rw [heap_grow_old _ _ (by simpa using hg)]
    simp [putRow, mapBlock, Sort.ahead, Array.getElem?_modify, hb, onCells]
  · rw [Nat.mul_one]
    apply List.ext_getElem?
    intro j
    by_cases hj : j < k
    · rw [List.getElem?_take_of_lt hj, List.getElem?_drop, Array.getElem?_toList]
      have : j < ts.length := by omega
      have h4 : o + j < cur.size := by omega
      simp [putCells, this, h4]
    · rw [List.getElem?_take_eq_none (by omega), List.getElem?_eq_none (by simp; omega)]
  · rw [heap_grow_old _ _ (by simpa using hj)]
    have : g ≠ j := fun e => hs (by simp [Is, e])
    simp [putRow, mapBlock, Sort.ahead, Array.getElem?_modify, this]
theorem holds_Sl {α : Type} [Inhabited α] (enc : α → Value) {w : World} {e : TypeId} {g o : Nat} {cur : Array Value} (ss : List α)
    (hb : w.heap[g]? = some (.cells cur e (0, 0))) (h4 : (cur.toList.drop o).take (ss.length * 1) = ss.map enc) : Holds enc w g o ss.toArray := by
  intro j hj
  have hj' : j < ss.length := by simpa using hj
  refine ⟨?_, by simp [World.frozen?, hb]⟩
  have h1 : ((cur.toList.drop o).take (ss.length * 1))[j]? = (ss.map enc)[j]? := by rw [h4]
  rw [Nat.mul_one, List.getElem?_take_of_lt hj', List.getElem?_drop] at h1
  simp only [World.cell?, hb, Option.isSome_none, Bool.false_eq_true, if_false]
  rw [← Array.getElem?_toList, h1]
  simp [hj']

set_option maxRecDepth 100000 in
set_option maxHeartbeats 1000000 in
theorem clipS_any {R : Ending → World → Prop} (v : Value) (g : Option Nat) (ss : List (List UInt8)) (w : World) (h : St w v g ss)
    (hR : ∀ v', St w v' g ss → R (.returned v') w) :
    Calls Try.prog 44 #[v] w R := by
  have HR := Lib.hid hR
  clear hR
  have hl := Sl.len_le h
  unfold maxLen at hl
  obtain ⟨hlen, h2⟩ := h
  rcases h2 with ⟨rfl, rfl, h0⟩ | ⟨b, o, cap, cur, rfl, rfl, hb, h1, h2, h3, h4⟩
  · have hbs : ss = [] := List.eq_nil_of_length_eq_zero h0
    subst hbs
    go_enter Try.func44, Try.ntmps44
    go_wp2
    exact HR.out _ (Sl.nil _ _ _)
  · obtain ⟨n, hn⟩ : ∃ n, n = ss.length := ⟨_, rfl⟩
    have HS : Hid (St w (.slice (some ⟨b, o, none⟩) n n) (some b) ss) := by
      subst hn
      exact ⟨hlen, .inr ⟨b, o, ss.length, cur, rfl, rfl, hb, Nat.le_refl _, by unfold maxLen; omega, by omega, h4⟩⟩
    have HR' := Lib.hid (HR.out _ HS.out)
    clear HR HS
    rw [← hn] at hl h1 ⊢
    have g1 : (n : Int) ≤ (cap : Int) := by omega
    have g2 : (0 : Int) ≤ (n : Int) := by omega
    clear hn h3 h4 hlen hb
    go_enter Try.func44, Try.ntmps44
    go_wp2
    exact HR'.out

/-- slices.Sort at []string, as it is used here. -/
def SortS : Prop := ∀ (R : Ending → World → Prop) (v : Value) (g : Option Nat) (ss : List (List UInt8)) (w : World), St w v g ss → ss.length ≤ 1000000 →
  (∀ w', St w' v g (sortL ss) → Fr (Is g) w w' → R (.returned (.tuple #[])) w') → Calls Try.prog 43 #[v] w R

/-- How many keys are still to come. -/
def itLeft (mb r : Nat) (w : World) : Nat := match w.heap[mb]?, w.heap[r]? with
  | some (.map es _), some (.mapIter _ _ seen _) => (leftOf es seen).size
  | _, _ => 0
theorem ItOf.left {w : World} {mb r : Nat} {left : List ByteArray} (h : ItOf w mb r left) : itLeft mb r w = left.length := by
  obtain ⟨es, clock, seen, h1, _, h2, h3⟩ := h
  have := congrArg List.length h3
  simp only [List.length_map, Array.length_toList] at this
  simp [itLeft, h1, h2, this]
theorem ItOf.lt {w : World} {mb r : Nat} {left : List ByteArray} (h : ItOf w mb r left) : r < w.heap.size := by
  obtain ⟨es, clock, seen, h1, _, h2, h3⟩ := h
  exact block_lt h2
theorem ItOf.ne {w : World} {mb r : Nat} {left : List ByteArray} (h : ItOf w mb r left) {e : TypeId} {z : Nat} {v : Value} {g : Option Nat} {n : Nat} {xs : List Value} (hs : Sl w e z v g n xs) : g ≠ some r ∧ g ≠ some mb := by
  obtain ⟨es, clock, seen, h1, _, h2, h3⟩ := h
  rcases hs.2 with ⟨_, hg, _⟩ | ⟨b, o, cap, cur, _, hg, hb, _⟩
  · rw [hg]; exact ⟨(by simp), (by simp)⟩
  · rw [hg]
    refine ⟨?_, ?_⟩
    · intro q; cases q; rw [hb] at h2; cases h2
    · intro q; cases q; rw [hb] at h1; cases h1
/-- Between two rounds: what came, what is still to come. -/
def NamesRel (w0 : World) (mb B : Nat) (all : List ByteArray) (v : Value) (wr : World) : Prop :=
  ∃ (g : Option Nat) (got left : List ByteArray), St wr v g (got.map fun s => s.data.toList) ∧ ItOf wr mb B left ∧ (got ++ left).Perm all ∧ Fr (Is (some B)) w0 wr ∧ ∀ k, g = some k → B < k
section
variable {bd mb : Nat} {fuse : Int} {dead : Bool} {rs : List Rep} {w : World} (h : DiskRep w bd mb fuse dead rs)
include h
set_option maxRecDepth 100000 in
set_option maxHeartbeats 2000000 in
theorem names_any (HSort : SortS) {R : Ending → World → Prop} (hR : ∀ v g w', St w' v g (sortL (rs.map fun r => r.f.name.data.toList)) → Fr No w w' → New w g → R (.returned v) w') :
    Calls Try.prog 20 #[.pointer (some ⟨bd, 0, none⟩)] w R := by
  have HR := Lib.hid hR
  have c0 := h.c0
  obtain ⟨i0, hi, hz0, hz1, hz2⟩ := info_parts infoS
  obtain ⟨w0, hrange, hw0, hit⟩ := h.map.range uMap (P := Try.prog) (T := 45)
  have hF0 : Fr No w w0 := by rw [hw0]; exact Fr.alloc _ _ _
  have hfew := h.few
  have hmb := h.map.lt
  simp only [List.map_map, Function.comp_def] at hit
  simp only [ptr] at hrange
  obtain ⟨B, hB⟩ : ∃ B, B = w.heap.size := ⟨_, rfl⟩
  rw [← hB] at hit hrange hmb
  have HB := Lib.hid hB
  have HS := Lib.hid HSort
  have HF0 := Lib.hid hF0
  have HIT := Lib.hid hit
  have HSZ := Lib.hid (show w0.heap.size = B + 1 by rw [hw0, hB]; simp)
  clear hR h hw0 hF0 hB HSort hit
  go_enter Try.func20, Try.ntmps20
  go_wp2_with (go_at_call 21; refine (there_at _ _ _ c0).mono ?_; rintro e w' ⟨rfl, rfl⟩)
  go_loopw [2] (fun v wr => NamesRel w0 mb B (rs.map fun x => x.f.name) v wr) (fun _ wr => itLeft mb B wr)
  case atStart => exact ⟨none, [], _, Sl.nil _ _ _, HIT.out, List.Perm.refl _, Fr.refl _ _, fun k e => by cases e⟩
  case round =>
    obtain ⟨g, got, left, hst, hit, hperm, hF, hg⟩ := hrel
    have hle : got.length + left.length ≤ 16 := by
      have := hperm.length_eq
      simp only [List.length_append, List.length_map] at this
      omega
    have hIL := Lib.hid hit.left
    have HST := Lib.hid hst
    have HP := Lib.hid hperm
    have HFr := Lib.hid hF
    have HG := Lib.hid hg
    have HNE := Lib.hid (hit.ne hst)
    rcases hit.next (P := Try.prog) 0 with ⟨rfl, hnext⟩ | ⟨pre, k, post, kv, w2, rfl, hnext, hit2, hentry, hF2, hsz2⟩
    · clear hit hst hperm hF hg
      go_wp2_with (first
        | (go_at_call 43; refine HS.out _ _ _ _ _ HST.out (by simp at hle ⊢; omega) ?_; intro w1 h1 h2; have h1' := Lib.hid h1; have h2' := Lib.hid h2; clear h1 h2)
        | (go_at_call 44; refine clipS_any _ _ _ _ h1'.out ?_; intro v2 h3; have h3' := Lib.hid h3; clear h3))
      have hp := HP.out
      simp only [List.append_nil] at hp
      have e : sortL (got.map fun s => s.data.toList) = sortL (rs.map fun r => r.f.name.data.toList) := by
        have := mergeSort_of_perm (hp.map fun s => s.data.toList)
        simpa [sortL, List.map_map, Function.comp_def] using this
      have h3 := h3'.out
      rw [e] at h3
      have hb := HB.out
      refine HR.out _ g _ h3 ?_ (fun k hk => by have := HG.out k hk; omega)
      refine ((HF0.out.step HFr.out fun i hi e => ?_).step h2'.out fun i hi e => ?_)
      · cases e; rw [hb] at hi; exact absurd hi (Nat.lt_irrefl _)
      · have := HG.out i e; rw [hb] at this; exact absurd hi (by omega)
    · have hw2 : Fr (Is (some B)) w0 w2 := hF.trans hF2
      have hst2 : St w2 u2 g (got.map fun s => s.data.toList) := hst.fr hF2 fun k hk e => HNE.out.1 (by rw [hk]; exact e.symm)
      have HSA := Lib.hid (hst2.fr (Fr.alloc No w2 (.cells #[.string k] 9)) fun _ _ x => x)
      have HON := Lib.hid (by simpa using Sl.made w2 9 1 1 #[.string k] 1 (Nat.le_refl _) (by unfold maxLen; omega) (by simp) : Sl (w2.alloc (.cells #[.string k] 9)) 9 1 (.slice (some ⟨w2.heap.size, 0, none⟩) 1 1) (some w2.heap.size) 1 [.string k])
      have HW2 := Lib.hid hw2
      have HIT2 := Lib.hid hit2
      have hent := hentry w2 rfl rfl
      clear hit hst hperm hF hg hw2 hst2 hit2 hentry hF2 hsz2
      go_wp2_with (at_builtin; refine wpList_appendSl _ rfl _ _ 50 rfl 9 i0 (.string ByteArray.empty) 1 16 uStrs hi hz0 hz1 hz2 rfl (by omega) _ _ _ _ rfl HSA.out _ _ _ _ rfl HON.out.src (by simp [Value.oneCell']) (by unfold maxLen; simp at hle ⊢; omega) (by simp at hle ⊢; omega) ?_; intro p' c' g' w3 h1 h2 h3; have h1' := Lib.hid h1; have h2' := Lib.hid h2; have h3' := Lib.hid h3; clear h1 h2 h3)
      have hB2 := HIT2.out.lt
      have hne3 : ¬ Is g B := fun e => HNE.out.1 e
      have hnm3 : ¬ Is g mb := fun e => HNE.out.2 e
      have hF3 : Fr (Is g) w2 w3 := (Fr.alloc (Is g) w2 _).trans h2'.out
      have hit3 := HIT2.out.fr hF3 hnm3 hne3
      have hsz := HSZ.out
      have hw := HW2.out.size
      refine ⟨⟨g', got ++ [k], pre ++ post, ?_, hit3, ?_, ?_, ?_⟩, ?_⟩
      · have := h1'.out
        simpa [St, string_enc] using this
      · refine List.Perm.trans ?_ HP.out
        rw [List.append_assoc]
        refine List.Perm.append_left _ ?_
        exact (List.perm_middle (a := k) (l₁ := pre) (l₂ := post)).symm
      · refine HW2.out.step hF3 fun i hi e => ?_
        have := HG.out i e
        exact absurd hi (by omega)
      · intro j hj
        rcases h3'.out with e | ⟨e, _⟩
        · exact HG.out j (by rw [← e]; exact hj)
        · rw [e] at hj; cases hj; simp; omega
      · rw [hit3.left, hIL.out]; simp
end
end Go.Proofs.Ythjpjekaiflibaa
