/- The words that all walks of this seat share: frames ('Fr'), slices as lists of cells ('Sl'), append's law over them. No program in sight. -/
import Derived.WalkKit
import Derived.WalkSpells
import Derived.WalkLawsBesides
import Derived.BigQuiet
import Derived.Deep.QuietTactic
import Derived.Deep.AppendLies
import Derived.Maps.AppendAt
import Derived.Lib.Hide
import Derived.Laws.IdiomCopy
import Derived.Laws.CopyOwn
import Derived.Deep.RegionHeld3
import Derived.Deep.RegionLaw
import Derived.Deep.RegionWith
import Derived.Deep.DeepFit
import Derived.Deep.DeepCutAuto
import Derived.Deep.LoopGhost
import Derived.Deep.CutBlock
import Derived.StillTailTactics
import Derived.LoopTactic
namespace Go.Proofs.Ythjpjekaiflibaa
open Go.RowKit

/-- What lies outside S is as it was; no block has gone. -/
structure Fr (S : Nat → Prop) (w w' : World) : Prop where
  os : w'.os = w.os
  tape : w'.tape = w.tape
  output : w'.output = w.output
  size : w.heap.size ≤ w'.heap.size
  block : ∀ k, k < w.heap.size → ¬ S k → w'.heap[k]? = w.heap[k]?

def No : Nat → Prop := fun _ => False
def Is (g : Option Nat) : Nat → Prop := fun k => g = some k

theorem Fr.refl (S : Nat → Prop) (w : World) : Fr S w w := ⟨rfl, rfl, rfl, Nat.le_refl _, fun _ _ _ => rfl⟩
/-- Behind w the second step may have written what S has, and what is new. -/
theorem Fr.step {S T : Nat → Prop} {a b c : World} (h : Fr S a b) (k : Fr T b c) (hT : ∀ i, i < a.heap.size → T i → S i) : Fr S a c :=
  ⟨k.os.trans h.os, k.tape.trans h.tape, k.output.trans h.output, Nat.le_trans h.size k.size,
   fun i hi hs => (k.block i (Nat.lt_of_lt_of_le hi h.size) (fun ht => hs (hT i hi ht))).trans (h.block i hi hs)⟩
theorem Fr.trans {S : Nat → Prop} {a b c : World} (h : Fr S a b) (k : Fr S b c) : Fr S a c := h.step k fun _ _ x => x
theorem Fr.mono {S T : Nat → Prop} {a b : World} (h : Fr S a b) (hT : ∀ i, i < a.heap.size → S i → T i) : Fr T a b :=
  ⟨h.os, h.tape, h.output, h.size, fun i hi ht => h.block i hi fun hs => ht (hT i hi hs)⟩
theorem Fr.of_no {T : Nat → Prop} {a b : World} (h : Fr No a b) : Fr T a b := h.mono fun _ _ x => x.elim
theorem Fr.drewN (S : Nat → Prop) (w : World) (n : Nat) : Fr S w (w.drewN n) := ⟨rfl, rfl, rfl, Nat.le_refl _, fun _ _ _ => rfl⟩
theorem Fr.drew (S : Nat → Prop) (w : World) : Fr S w w.drew := ⟨rfl, rfl, rfl, Nat.le_refl _, fun _ _ _ => rfl⟩
theorem Fr.alloc (S : Nat → Prop) (w : World) (o : Obj) : Fr S w (w.alloc o) := ⟨rfl, rfl, rfl, by simp, fun k hk _ => Below.heap_alloc _ _ _ hk⟩
theorem Fr.setCell {S : Nat → Prop} (w : World) (a : Addr) (v : Value) (h : a.block < w.heap.size → S a.block) : Fr S w (w.setCell a v) :=
  ⟨rfl, rfl, rfl, by simp [World.setCell], fun k hk hs => Below.heap_setCell _ _ _ _ fun e => hs (by subst e; exact h hk)⟩
theorem Fr.set (w : World) (b k : Nat) (v : Value) : Fr (Is (some b)) w (w.setCell ⟨b, k, none⟩ v) := Fr.setCell _ _ _ fun _ => rfl
theorem Fr.grownBy {w w' : World} {row : Option Nat} (h : w.grownBy w' row) : Fr (Is row) w w' :=
  ⟨h.os, h.tape, h.output, h.size, fun k hk hs => h.block k hk fun e => hs e.symm⟩
theorem Fr.below {B : Nat} {w w' : World} (h : Below B w w') : Fr (fun k => B ≤ k) w w' :=
  ⟨h.os, h.tape, h.output, h.size, fun k _ hs => h.block k (by simpa using hs)⟩
/-- When S has none of the old blocks. -/
theorem Fr.toBelow {S : Nat → Prop} {w w' : World} (h : Fr S w w') (hS : ∀ k, k < w.heap.size → ¬ S k) : Below w.heap.size w w' :=
  ⟨h.os, h.tape, h.output, h.size, fun k hk => h.block k hk (hS k hk)⟩
theorem Fr.at {S : Nat → Prop} {w w' : World} (h : Fr S w w') {b : Nat} {o : Obj} (hb : w.heap[b]? = some o) (hs : ¬ S b) : w'.heap[b]? = some o :=
  (h.block b (Array.getElem?_eq_some_iff.1 hb).1 hs).trans hb
theorem Fr.cell {S : Nat → Prop} {w w' : World} (h : Fr S w w') {a : Addr} {v : Value} (hc : w.cell? a = some v) (hs : ¬ S a.block) : w'.cell? a = some v :=
  (World.cell?_of_block (h.block a.block (World.block_lt_of_cell? w a hc) hs)).trans hc
/-- Behind one, two, three new blocks: rules for the walk. -/
theorem cell_alloc {w : World} {a : Addr} {v : Value} (h : w.cell? a = some v) : ∀ o, (w.alloc o).cell? a = some v := fun o => (Fr.alloc No w o).cell h fun x => x
theorem cell_alloc2 {w : World} {a : Addr} {v : Value} (h : w.cell? a = some v) : ∀ o p, ((w.alloc o).alloc p).cell? a = some v := fun o => cell_alloc (cell_alloc h o)
theorem cell_alloc3 {w : World} {a : Addr} {v : Value} (h : w.cell? a = some v) : ∀ o p q, (((w.alloc o).alloc p).alloc q).cell? a = some v := fun o => cell_alloc2 (cell_alloc h o)
theorem block_lt {w : World} {b : Nat} {o : Obj} (hb : w.heap[b]? = some o) : b < w.heap.size := (Array.getElem?_eq_some_iff.1 hb).1
theorem cell_at {w : World} {b : Nat} {cs : Array Value} {t : TypeId} {fz : Nat × Nat} (h : w.heap[b]? = some (.cells cs t fz)) (k : Nat) {v : Value} (hk : cs[k]? = some v) : w.cell? ⟨b, k, none⟩ = some v := by simp [World.cell?, h, hk]
theorem free_at {w : World} {b : Nat} {cs : Array Value} {t : TypeId} (h : w.heap[b]? = some (.cells cs t (0, 0))) (k : Nat) : w.frozen? ⟨b, k, none⟩ = false := by simp [World.frozen?, h]
theorem heap_new (w : World) (o : Obj) : (w.alloc o).heap[w.heap.size]? = some o := heap_alloc_new w o

/-- v is a slice of n elements of type e, each of z cells; xs: their cells; g: the block where they lie (none: the slice is nil). -/
def Sl (w : World) (e : TypeId) (z : Nat) (v : Value) (g : Option Nat) (n : Nat) (xs : List Value) : Prop :=
  xs.length = n * z ∧
  ((v = .slice none 0 0 ∧ g = none ∧ n = 0) ∨
   ∃ b o cap cur, v = .slice (some ⟨b, o, none⟩) n cap ∧ g = some b ∧ w.heap[b]? = some (.cells cur e (0, 0)) ∧ n ≤ cap ∧ cap ≤ maxLen ∧ o + cap * z ≤ cur.size ∧ (cur.toList.drop o).take (n * z) = xs)

theorem Sl.nil (w : World) (e : TypeId) (z : Nat) : Sl w e z (.slice none 0 0) none 0 [] := ⟨by simp, .inl ⟨rfl, rfl, rfl⟩⟩
theorem Sl.fr {S : Nat → Prop} {w w' : World} {e : TypeId} {z : Nat} {v : Value} {g : Option Nat} {n : Nat} {xs : List Value} (h : Sl w e z v g n xs) (hF : Fr S w w') (hs : ∀ k, g = some k → ¬ S k) : Sl w' e z v g n xs := by
  refine ⟨h.1, ?_⟩
  rcases h.2 with h | ⟨b, o, cap, cur, rfl, rfl, hb, r⟩
  · exact .inl h
  · exact .inr ⟨b, o, cap, cur, rfl, rfl, hF.at hb (hs b rfl), r⟩
theorem Sl.lt {w : World} {e : TypeId} {z : Nat} {v : Value} {g : Option Nat} {n : Nat} {xs : List Value} (h : Sl w e z v g n xs) : ∀ k, g = some k → k < w.heap.size := by
  intro k hk
  rcases h.2 with ⟨_, h, _⟩ | ⟨b, o, cap, cur, rfl, rfl, hb, _⟩
  · rw [h] at hk; cases hk
  · cases hk; exact block_lt hb
theorem Sl.len_le {w : World} {e : TypeId} {z : Nat} {v : Value} {g : Option Nat} {n : Nat} {xs : List Value} (h : Sl w e z v g n xs) : n ≤ maxLen := by
  rcases h.2 with ⟨_, _, rfl⟩ | ⟨b, o, cap, cur, rfl, rfl, hb, h1, h2, _⟩
  · unfold maxLen; omega
  · omega
/-- Its value: nil, or an address with the cells. -/
theorem Sl.out {w : World} {e : TypeId} {z : Nat} {v : Value} {g : Option Nat} {n : Nat} {xs : List Value} (h : Sl w e z v g n xs) :
    (v = .slice none 0 0 ∧ g = none ∧ n = 0 ∧ xs = []) ∨ ∃ b o cap, v = .slice (some ⟨b, o, none⟩) n cap ∧ g = some b ∧ n ≤ cap ∧ cap ≤ maxLen ∧ b < w.heap.size ∧
      (∀ j u, xs[j]? = some u → w.cell? ⟨b, o + j, none⟩ = some u) ∧ (∀ k, w.frozen? ⟨b, k, none⟩ = false) := by
  obtain ⟨hl, h | ⟨b, o, cap, cur, rfl, rfl, hb, h1, h2, h3, h4⟩⟩ := h
  · obtain ⟨rfl, rfl, rfl⟩ := h
    exact .inl ⟨rfl, rfl, rfl, List.eq_nil_of_length_eq_zero (by simpa using hl)⟩
  · refine .inr ⟨b, o, cap, rfl, rfl, h1, h2, block_lt hb, fun j u hj => ?_, fun k => by simp [World.frozen?, hb]⟩
    rw [← h4, List.getElem?_take] at hj
    split at hj
    · rw [List.getElem?_drop] at hj
      simpa [World.cell?, hb] using hj
    · cases hj
theorem Sl.made (w : World) (e : TypeId) (z n : Nat) (cur : Array Value) (cap : Nat) (h1 : n ≤ cap) (h2 : cap ≤ maxLen) (h3 : cap * z ≤ cur.size) :
    Sl (w.alloc (.cells cur e)) e z (.slice (some ⟨w.heap.size, 0, none⟩) n cap) (some w.heap.size) n (cur.toList.take (n * z)) := by
  have : n * z ≤ cap * z := Nat.mul_le_mul_right z h1
  exact ⟨by simp; omega, .inr ⟨w.heap.size, 0, cap, cur, rfl, rfl, heap_new w _, h1, h2, by omega, by simp⟩⟩

theorem Sl.form {w : World} {e : TypeId} {z : Nat} {v : Value} {g : Option Nat} {n : Nat} {xs : List Value} (h : Sl w e z v g n xs) : ∃ p c, v = .slice p n c ∧ n ≤ c := by
  rcases h.2 with ⟨rfl, rfl, rfl⟩ | ⟨b, o, cap, cur, rfl, rfl, hb, k1, _⟩
  · exact ⟨none, 0, rfl, by omega⟩
  · exact ⟨_, cap, rfl, k1⟩
/-- A slice that is only read: what a call is handed. Where it has places, they lie in block g. -/
def Src (w : World) (z : Nat) (v : Value) (g : Option Nat) (n : Nat) (xs : List Value) : Prop :=
  xs.length = n * z ∧ ∃ p c, v = .slice p n c ∧ n ≤ c ∧ c ≤ maxLen ∧ (p = none → n = 0 ∧ c = 0) ∧
    (n = 0 ∨ ∃ b o, p = some ⟨b, o, none⟩ ∧ g = some b ∧ ∀ j u, xs[j]? = some u → w.cell? ⟨b, o + j, none⟩ = some u)
theorem Sl.src {w : World} {e : TypeId} {z : Nat} {v : Value} {g : Option Nat} {n : Nat} {xs : List Value} (h : Sl w e z v g n xs) : Src w z v g n xs := by
  refine ⟨h.1, ?_⟩
  rcases h.out with ⟨rfl, rfl, rfl, rfl⟩ | ⟨b, o, cap, rfl, rfl, h1, h2, _, h3, _⟩
  · exact ⟨none, 0, rfl, Nat.le_refl _, Nat.zero_le _, fun _ => ⟨rfl, rfl⟩, .inl rfl⟩
  · exact ⟨_, cap, rfl, h1, h2, (fun e => by cases e), .inr ⟨b, o, rfl, rfl, h3⟩⟩
theorem Src.fr {S : Nat → Prop} {w w' : World} {z : Nat} {v : Value} {g : Option Nat} {n : Nat} {xs : List Value} (h : Src w z v g n xs) (hF : Fr S w w') (hs : ∀ k, g = some k → ¬ S k) : Src w' z v g n xs := by
  obtain ⟨h0, p, c, h1, h2, h3, h4, h5⟩ := h
  refine ⟨h0, p, c, h1, h2, h3, h4, h5.imp id fun ⟨b, o, e1, e2, e3⟩ => ⟨b, o, e1, e2, fun j u hj => hF.cell (e3 j u hj) (hs b e2)⟩⟩
theorem Src.len_le {w : World} {z : Nat} {v : Value} {g : Option Nat} {n : Nat} {xs : List Value} (h : Src w z v g n xs) : n ≤ maxLen := by
  obtain ⟨_, p, c, _, h2, h3, _⟩ := h
  omega
theorem Src.form {w : World} {z : Nat} {v : Value} {g : Option Nat} {n : Nat} {xs : List Value} (h : Src w z v g n xs) : ∃ p c, v = .slice p n c ∧ n ≤ c := by
  obtain ⟨_, p, c, h1, h2, _⟩ := h
  exact ⟨p, c, h1, h2⟩
theorem Src.out {w : World} {z : Nat} {v : Value} {g : Option Nat} {n : Nat} {xs : List Value} (h : Src w z v g n xs) :
    (v = .slice none 0 0 ∧ n = 0 ∧ xs = []) ∨ ∃ a cap, v = .slice (some a) n cap ∧ n ≤ cap ∧ cap ≤ maxLen ∧ ∀ j u, xs[j]? = some u → w.cell? (a.add j) = some u := by
  obtain ⟨h0, p, c, rfl, h2, h3, h4, h5⟩ := h
  cases p with
  | none =>
    obtain ⟨rfl, rfl⟩ := h4 rfl
    exact .inl ⟨rfl, rfl, List.eq_nil_of_length_eq_zero (by simpa using h0)⟩
  | some a =>
    refine .inr ⟨a, c, rfl, h2, h3, fun j u hj => ?_⟩
    rcases h5 with rfl | ⟨b, o, e1, _, e3⟩
    · have : xs = [] := List.eq_nil_of_length_eq_zero (by simpa using h0)
      rw [this] at hj
      cases hj
    · have := e3 j u hj
      cases e1
      unfold Addr.add
      split
      · rename_i h0; subst h0; simpa using this
      · exact this
theorem run_appendSl {P : Program} (w : World) (t ty e : TypeId) (i : TypeInfo) (zv : Value) (z bytes : Nat) (ht : P.underlying t = some (.slice e)) (hi : P.info? e = some i) (hz : i.zero = some zv)
    (hsize : i.size = z) (hby : i.bytes = bytes) (hzs : zv.cells.size = z) (hsz : 0 < z)
    (v : Value) (g : Option Nat) (n : Nat) (xs : List Value) (h : Sl w e z v g n xs)
    (x : Value) (gx : Option Nat) (m : Nat) (ys : List Value) (hx : Src w z x gx m ys) (h1 : ∀ u ∈ ys, u.oneCell' = true)
    (h63 : n + m ≤ maxLen) (hbytes : (n + m) * bytes ≤ 140737488355328) :
    ∃ v' g' w', (Builtin.append_ #[t, t] ty #[v, x]).run P w = .ok v' w' ∧ Sl w' e z v' g' (n + m) (xs ++ ys) ∧ Fr (Is g) w w' ∧
      (g' = g ∨ (g' = some w.heap.size ∧ w.heap.size < w'.heap.size)) := by
  subst hsize
  subst hby
  have hlen : (xs ++ ys).length = (n + m) * i.size := by rw [List.length_append, h.1, hx.1, Nat.add_mul]
  have hsmall : n + m ≤ 9223372036854775807 := by simp only [maxLen] at h63; omega
  have grown : ∀ (old : Nat), old < n + m →
      Sl (w.drew.alloc (.cells (xs.toArray ++ ys.toArray ++ Builtin.zeroCells zv.cells (grownCap w (n + m) old e - (n + m))) e)) e i.size
        (.slice (some ⟨w.heap.size, 0, none⟩) (n + m) (grownCap w (n + m) old e)) (some w.heap.size) (n + m) (xs ++ ys) := by
    intro old ho
    have hge := grownCap_ge w (n + m) old e
    have hcm : grownCap w (n + m) old e ≤ maxLen := grownCap_le_maxLen w (n + m) old e h63
    refine ⟨hlen, .inr ⟨w.heap.size, 0, _, _, rfl, rfl, heap_alloc_new w.drew _, hge, hcm, ?_, ?_⟩⟩
    · simp only [Array.size_append, List.size_toArray, size_zeroCells, hzs, h.1, hx.1, ← Nat.add_mul, Nat.zero_add]
      apply Nat.le_of_eq
      congr 1
      omega
    · simp only [Array.toList_append, List.append_assoc, List.drop_zero]
      rw [← List.append_assoc, ← hlen]
      exact List.take_left
  have fr : ∀ o, Fr (Is g) w (w.drew.alloc o) := fun o => (Fr.drew (Is g) w).trans (Fr.alloc (Is g) _ o)
  rcases hx.out with ⟨rfl, rfl, rfl⟩ | ⟨ax, cx, rfl, hc1, hc2, hnews⟩
  · -- nothing is appended
    obtain ⟨v0, hv0⟩ : ∃ (p : Option Addr) (c : Nat), v = .slice p n c ∧ n ≤ c := by
      rcases h.2 with ⟨rfl, rfl, rfl⟩ | ⟨b, o, cap, cur, rfl, rfl, hb, k1, _⟩
      · exact ⟨none, 0, rfl, by omega⟩
      · exact ⟨_, cap, rfl, k1⟩
    obtain ⟨c, rfl, hnc⟩ := hv0
    refine ⟨.slice v0 n c, g, w, ?_, by simpa using h, Fr.refl _ _, .inl rfl⟩
    cases v0 <;> simp [Builtin.append_, run_underlying ht, sizeOf, typeInfo, hi, Builtin.lenOf, Builtin.firstCells, hnc, storeCells]
  · rcases h.2 with ⟨rfl, rfl, rfl⟩ | ⟨b, o, cap, cur, rfl, rfl, hb, hnc, hcm, hcs, htake⟩
    · have hxs : xs = [] := List.eq_nil_of_length_eq_zero (by simpa using h.1)
      subst hxs
      by_cases hm : m = 0
      · subst hm
        have hn : ys = [] := List.eq_nil_of_length_eq_zero (by simpa using hx.1)
        subst hn
        refine ⟨.slice none 0 0, none, w, ?_, Sl.nil _ _ _, Fr.refl _ _, .inl rfl⟩
        simp [Builtin.append_, run_underlying ht, sizeOf, typeInfo, hi, Builtin.lenOf, Builtin.firstCells, loadCells, loadCellsFrom]
      · have hr := run_append_nil (P := P) w t ty e i zv ht hi hz ax m cx ys hx.1 hnews (by omega) (by omega) (by have hb := hbytes; simp only [Nat.zero_add] at hb; omega)
        have hg := grown 0 (by omega)
        simp only [Nat.zero_add, List.nil_append, Array.empty_append] at hg ⊢
        exact ⟨_, _, _, hr, hg, fr _, .inr ⟨rfl, by show w.heap.size < (w.heap.push _).size; simp⟩⟩
    · by_cases hroom : n + m ≤ cap
      · have hfit : o + n * i.size + ys.length ≤ cur.size := by
          rw [hx.1, Nat.add_assoc, ← Nat.add_mul]
          have := Nat.mul_le_mul_right i.size hroom
          omega
        have hf := run_firstCells_some (P := P) w i.size m ax m cx ys hx.1 hnews
        have hst := run_storeCells_at P b (o + n * i.size) e ys 0 cur w hb (by simpa using hfit) h1
        simp only [Nat.add_zero] at hst
        have hadd : (⟨b, o, none⟩ : Addr).add (n * i.size) = ⟨b, o + n * i.size, none⟩ := by unfold Addr.add; split <;> simp_all
        refine ⟨.slice (some ⟨b, o, none⟩) (n + m) cap, some b, w.setRow b (cur.toList.take (o + n * i.size) ++ ys ++ cur.toList.drop (o + n * i.size + ys.length)).toArray, ?_, ⟨hlen, .inr ⟨b, o, cap, _, rfl, rfl, setRow_heap w b cur _ e _ hb, hroom, hcm, ?_, ?_⟩⟩, ⟨rfl, rfl, rfl, by simp, fun k _ hk => setRow_other w b k _ (fun e => hk (by simp [Is, e]))⟩, .inl rfl⟩
        · simp [Builtin.append_, run_underlying ht, sizeOf, typeInfo, hi, Builtin.lenOf, hroom, hf, hadd, hst]
        · simp only [List.size_toArray, List.length_append, List.length_take, List.length_drop, Array.length_toList]
          omega
        · have e1 : o ≤ (cur.toList.take (o + n * i.size)).length := by simp; omega
          rw [List.append_assoc, List.drop_append_of_le_length e1, ← List.append_assoc, List.drop_take]
          have e2 : List.take (o + n * i.size - o) (List.drop o cur.toList) = xs := by rw [Nat.add_sub_cancel_left]; exact htake
          rw [e2, ← hlen]
          exact List.take_left
      · have holds : ∀ j u, xs[j]? = some u → w.cell? ((⟨b, o, none⟩ : Addr).add j) = some u := by
          intro j u hj
          have : w.cell? ⟨b, o + j, none⟩ = some u := by
            rw [← htake, List.getElem?_take] at hj
            split at hj
            · rw [List.getElem?_drop] at hj
              simpa [World.cell?, hb] using hj
            · cases hj
          unfold Addr.add
          split
          · rename_i h0; subst h0; simpa using this
          · exact this
        have hr := run_append_grow (P := P) w t ty e i zv ht hi hz ⟨b, o, none⟩ n cap xs h.1 holds ax m cx ys hx.1 hnews (by omega) (by omega) (growslice_fits (by omega) hbytes)
        exact ⟨_, _, _, hr, grown cap (by omega), fr _, .inr ⟨rfl, by show w.heap.size < (w.heap.push _).size; simp⟩⟩

theorem wpList_appendSl {P : Program} {ops : Array Oper} {rest : List Oper} {o : Oper} {a : Act} {Q : Exit → Act → World → Prop} (w : World) (hgd : o.guard = none) (s x : Operand) (t : TypeId)
    (ho : o.op = .call { callee := .builtin .append, args := #[s, x], argTypes := #[t, t] })
    (e : TypeId) (i : TypeInfo) (zv : Value) (z bytes : Nat) (ht : P.underlying t = some (.slice e)) (hi : P.info? e = some i) (hz : i.zero = some zv)
    (hsize : i.size = z) (hby : i.bytes = bytes) (hzs : zv.cells.size = z) (hsz : 0 < z)
    (v : Value) (g : Option Nat) (n : Nat) (xs : List Value) (hs : a.eval s = v) (h : Sl w e z v g n xs)
    (y : Value) (gx : Option Nat) (m : Nat) (ys : List Value) (hy : a.eval x = y) (hx : Src w z y gx m ys) (h1 : ∀ u ∈ ys, u.oneCell' = true)
    (h63 : n + m ≤ maxLen) (hbytes : (n + m) * bytes ≤ 140737488355328)
    (hK : ∀ p' c' g' w', Sl w' e z (.slice p' (n + m) c') g' (n + m) (xs ++ ys) → Fr (Is g) w w' → (g' = g ∨ (g' = some w.heap.size ∧ w.heap.size < w'.heap.size)) → wpList P ops Q rest (a.put o.dst (.slice p' (n + m) c')) w') :
    wpList P ops Q (o :: rest) a w := by
  refine wpList_plain hgd fun K hK' => ?_
  obtain ⟨v', g', w', hr, h2, h3, h4⟩ := run_appendSl (P := P) w t o.type e i zv z bytes ht hi hz hsize hby hzs hsz v g n xs h y gx m ys hx h1 h63 hbytes
  obtain ⟨p', c', rfl, _⟩ := h2.form
  unfold Oper.wp execOp
  simp only [ho, resolve, invoke, builtin, Sem.run_bind, Sem.run_pure, Result.andThen_ok, List.map_toArray, List.map_cons, List.map_nil, hs, hy, hr]
  exact hK' _ _ (hK p' c' g' w' h2 h3 h4)
/-- The same as a step of a region that draws its order. -/
theorem step_appendSl {P : Program} {ops : Array Oper} {o : Oper} {a : Act} {w : World} {K : Act → World → Prop} {Q : Exit → Act → World → Prop} {E : Prop} (hgd : o.guard = none) (s x : Operand) (t : TypeId)
    (ho : o.op = .call { callee := .builtin .append, args := #[s, x], argTypes := #[t, t] })
    (e : TypeId) (i : TypeInfo) (zv : Value) (z bytes : Nat) (ht : P.underlying t = some (.slice e)) (hi : P.info? e = some i) (hz : i.zero = some zv)
    (hsize : i.size = z) (hby : i.bytes = bytes) (hzs : zv.cells.size = z) (hsz : 0 < z)
    (v : Value) (g : Option Nat) (n : Nat) (xs : List Value) (hs : a.eval s = v) (h : Sl w e z v g n xs)
    (y : Value) (gx : Option Nat) (m : Nat) (ys : List Value) (hy : a.eval x = y) (hx : Src w z y gx m ys) (h1 : ∀ u ∈ ys, u.oneCell' = true)
    (h63 : n + m ≤ maxLen) (hbytes : (n + m) * bytes ≤ 140737488355328)
    (hK : ∀ p' c' g' w', Sl w' e z (.slice p' (n + m) c') g' (n + m) (xs ++ ys) → Fr (Is g) w w' → (g' = g ∨ (g' = some w.heap.size ∧ w.heap.size < w'.heap.size)) → K (a.put o.dst (.slice p' (n + m) c')) w') :
    if Region.wanted o (yielded ops a.tmps) = true then Oper.wp P o a w K Q else E := by
  have hw : Region.wanted o (yielded ops a.tmps) = true := by simp [Region.wanted, hgd]
  rw [if_pos hw]
  obtain ⟨v', g', w', hr, h2, h3, h4⟩ := run_appendSl (P := P) w t o.type e i zv z bytes ht hi hz hsize hby hzs hsz v g n xs h y gx m ys hx h1 h63 hbytes
  obtain ⟨p', c', rfl, _⟩ := h2.form
  unfold Oper.wp execOp
  simp only [ho, resolve, invoke, builtin, Sem.run_bind, Sem.run_pure, Result.andThen_ok, List.map_toArray, List.map_cons, List.map_nil, hs, hy, hr]
  exact hK p' c' g' w' h2 h3 h4
end Go.Proofs.Ythjpjekaiflibaa
