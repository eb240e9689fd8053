/- How a disk lies in memory; what 'does' does, whatever the doing. -/
import Derived.Test.YthjpjekaiflibaaDisk1
namespace Go.Proofs.Ythjpjekaiflibaa
open Go.RowKit

structure File where
  name : ByteArray
  bytes : List UInt8
  sure : Nat

def encB (c : UInt8) : Value := .int .u8 c.toNat
/-- A slice of bytes. -/
def By (w : World) (v : Value) (g : Option Nat) (bs : List UInt8) : Prop := Sl w 5 1 v g bs.length (bs.map encB)
/-- Bytes that are only read. -/
def Bs (w : World) (v : Value) (g : Option Nat) (bs : List UInt8) : Prop := Src w 1 v g bs.length (bs.map encB)
theorem By.src {w : World} {v : Value} {g : Option Nat} {bs : List UInt8} (h : By w v g bs) : Bs w v g bs := Sl.src h
theorem Bs.fr {S : Nat → Prop} {w w' : World} {v : Value} {g : Option Nat} {bs : List UInt8} (h : Bs w v g bs) (hF : Fr S w w') (hs : ∀ k, g = some k → ¬ S k) : Bs w' v g bs := Src.fr h hF hs
theorem By.fr {S : Nat → Prop} {w w' : World} {v : Value} {g : Option Nat} {bs : List UInt8} (h : By w v g bs) (hF : Fr S w w') (hs : ∀ k, g = some k → ¬ S k) : By w' v g bs := Sl.fr h hF hs

structure Rep where
  f : File
  fb : Nat
  v : Value
  g : Option Nat

def Rep.blocks (r : Rep) : List Nat := r.fb :: r.g.toList
structure FileAt (w : World) (r : Rep) : Prop where
  box : w.heap[r.fb]? = some (.cells #[r.v, .int .i64 r.f.sure, .string r.f.name] 59 (0, 0))
  by_ : By w r.v r.g r.f.bytes
  sure : r.f.sure ≤ r.f.bytes.length
  most : r.f.bytes.length ≤ 1048576
  nm : 0 < r.f.name.size ∧ r.f.name.size ≤ 16

theorem FileAt.fr {S : Nat → Prop} {w w' : World} {r : Rep} (h : FileAt w r) (hF : Fr S w w') (hs : ∀ k, k ∈ r.blocks → ¬ S k) : FileAt w' r :=
  ⟨hF.at h.box (hs _ (by simp [Rep.blocks])), h.by_.fr hF fun k hk => hs k (by simp [Rep.blocks, hk]), h.sure, h.most, h.nm⟩
theorem FileAt.lt {w : World} {r : Rep} (h : FileAt w r) : ∀ k, k ∈ r.blocks → k < w.heap.size := by
  intro k hk
  simp only [Rep.blocks, List.mem_cons, Option.mem_toList] at hk
  rcases hk with rfl | hk
  · exact block_lt h.box
  · exact Sl.lt h.by_ k hk

def own (bd mb : Nat) (rs : List Rep) : List Nat := bd :: mb :: rs.flatMap Rep.blocks
structure DiskRep (w : World) (bd mb : Nat) (fuse : Int) (dead : Bool) (rs : List Rep) : Prop where
  box : w.heap[bd]? = some (.cells #[.map (some mb), .int .i64 fuse, .bool dead] 47 (0, 0))
  map : MapOf w mb (rs.map fun r => (r.f.name, r.fb))
  files : ∀ r ∈ rs, FileAt w r
  nodup : (own bd mb rs).Nodup
  low : -1 ≤ fuse
  high : fuse ≤ 9223372036854775807
  few : rs.length ≤ 16

theorem DiskRep.fr {S : Nat → Prop} {w w' : World} {bd mb : Nat} {fuse : Int} {dead : Bool} {rs : List Rep} (h : DiskRep w bd mb fuse dead rs) (hF : Fr S w w') (hs : ∀ k, k ∈ own bd mb rs → ¬ S k) : DiskRep w' bd mb fuse dead rs :=
  ⟨hF.at h.box (hs _ (by simp [own])), h.map.fr hF (hs _ (by simp [own])), fun r hr => (h.files r hr).fr hF fun k hk => hs k (by simp only [own, List.mem_cons, List.mem_flatMap]; exact .inr (.inr ⟨r, hr, hk⟩)), h.nodup, h.low, h.high, h.few⟩
theorem DiskRep.lt {w : World} {bd mb : Nat} {fuse : Int} {dead : Bool} {rs : List Rep} (h : DiskRep w bd mb fuse dead rs) : ∀ k, k ∈ own bd mb rs → k < w.heap.size := by
  intro k hk
  simp only [own, List.mem_cons, List.mem_flatMap] at hk
  rcases hk with rfl | rfl | ⟨r, hr, hk⟩
  · exact block_lt h.box
  · exact h.map.lt
  · exact (h.files r hr).lt k hk
theorem DiskRep.c0 {w : World} {bd mb : Nat} {fuse : Int} {dead : Bool} {rs : List Rep} (h : DiskRep w bd mb fuse dead rs) : w.cell? ⟨bd, 0, none⟩ = some (.map (some mb)) := by simp [World.cell?, h.box]
theorem DiskRep.c1 {w : World} {bd mb : Nat} {fuse : Int} {dead : Bool} {rs : List Rep} (h : DiskRep w bd mb fuse dead rs) : w.cell? ⟨bd, 1, none⟩ = some (.int .i64 fuse) := by simp [World.cell?, h.box]
theorem DiskRep.c2 {w : World} {bd mb : Nat} {fuse : Int} {dead : Bool} {rs : List Rep} (h : DiskRep w bd mb fuse dead rs) : w.cell? ⟨bd, 2, none⟩ = some (.bool dead) := by simp [World.cell?, h.box]
theorem DiskRep.fz {w : World} {bd mb : Nat} {fuse : Int} {dead : Bool} {rs : List Rep} (h : DiskRep w bd mb fuse dead rs) (k : Nat) : w.frozen? ⟨bd, k, none⟩ = false := by simp [World.frozen?, h.box]
theorem setCell_box {w : World} {b k : Nat} {cs : Array Value} {t : TypeId} {fz : Nat × Nat} (h : w.heap[b]? = some (.cells cs t fz)) (v : Value) : (w.setCell ⟨b, k, none⟩ v).heap[b]? = some (.cells (cs.setIfInBounds k v) t fz) := by
  simp only [World.setCell, Array.getElem?_modify, if_pos]
  rw [h]
  simp
theorem DiskRep.setFuse {w : World} {bd mb : Nat} {fuse : Int} {dead : Bool} {rs : List Rep} (h : DiskRep w bd mb fuse dead rs) (n : Int) (h0 : -1 ≤ n) (h1 : n ≤ 9223372036854775807) : DiskRep (w.setCell ⟨bd, 1, none⟩ (.int .i64 n)) bd mb n dead rs := by
  have hF : Fr (Is (some bd)) w (w.setCell ⟨bd, 1, none⟩ (.int .i64 n)) := Fr.setCell _ _ _ fun _ => rfl
  have hn := h.nodup
  simp only [own, List.nodup_cons, List.mem_cons, not_or] at hn
  exact ⟨by rw [setCell_box h.box]; simp, h.map.fr hF (fun e => hn.1.1 (by cases e; rfl)), fun r hr => (h.files r hr).fr hF fun k hk e => hn.1.2 (by cases e; exact List.mem_flatMap.2 ⟨r, hr, hk⟩), h.nodup, h0, h1, h.few⟩
theorem DiskRep.setDead {w : World} {bd mb : Nat} {fuse : Int} {dead : Bool} {rs : List Rep} (h : DiskRep w bd mb fuse dead rs) (d : Bool) : DiskRep (w.setCell ⟨bd, 2, none⟩ (.bool d)) bd mb fuse d rs := by
  have hF : Fr (Is (some bd)) w (w.setCell ⟨bd, 2, none⟩ (.bool d)) := Fr.setCell _ _ _ fun _ => rfl
  have hn := h.nodup
  simp only [own, List.nodup_cons, List.mem_cons, not_or] at hn
  exact ⟨by rw [setCell_box h.box]; simp, h.map.fr hF (fun e => hn.1.1 (by cases e; rfl)), fun r hr => (h.files r hr).fr hF fun k hk e => hn.1.2 (by cases e; exact List.mem_flatMap.2 ⟨r, hr, hk⟩), h.nodup, h.low, h.high, h.few⟩

/-- The file of that name. -/
def repOf (rs : List Rep) (s : ByteArray) : Option Rep := rs.find? fun r => decide (r.f.name = s)
theorem look_rep (rs : List Rep) (s : ByteArray) : lookOf (rs.map fun r => (r.f.name, r.fb)) s = match repOf rs s with | some r => ptr r.fb | none => .pointer none := by
  simp only [lookOf, repOf, List.find?_map, Function.comp_def]
  cases rs.find? fun r => decide (r.f.name = s) <;> rfl
theorem repOf_mem {rs : List Rep} {s : ByteArray} {r : Rep} (h : repOf rs s = some r) : r ∈ rs ∧ r.f.name = s := by
  have h1 := List.mem_of_find?_eq_some h
  have h2 := List.find?_some h
  exact ⟨h1, by simpa using h2⟩
/-- A new file, before anything was done to it. -/
def newRep (s : ByteArray) (b : Nat) : Rep := { f := { name := s, bytes := [], sure := 0 }, fb := b, v := .slice none 0 0, g := none }
/-- The fuse behind a doing. -/
def burnt (n : Int) : Int := if 0 < n then n - 1 else n
/-- The world in which a doing's fuse was burnt. -/
def burntW (w : World) (bd : Nat) (n : Int) : World := if 0 < n then w.setCell ⟨bd, 1, none⟩ (.int .i64 (n - 1)) else w
theorem DiskRep.burnt {w : World} {bd mb : Nat} {fuse : Int} {dead : Bool} {rs : List Rep} (h : DiskRep w bd mb fuse dead rs) : DiskRep (burntW w bd fuse) bd mb (burnt fuse) dead rs := by
  have := h.low; have := h.high
  unfold burntW Ythjpjekaiflibaa.burnt
  split
  · exact h.setFuse _ (by omega) (by omega)
  · exact h
theorem burntW_fr (w : World) (bd : Nat) (n : Int) : Fr (Is (some bd)) w (burntW w bd n) := by
  unfold burntW
  split
  · exact Fr.setCell _ _ _ fun _ => rfl
  · exact Fr.refl _ _
theorem burntW_size (w : World) (bd : Nat) (n : Int) : (burntW w bd n).heap.size = w.heap.size := by
  unfold burntW
  split <;> simp [World.setCell]
/-- A new file is laid: its block, the map's entry. -/
theorem DiskRep.newFile {w : World} {bd mb : Nat} {fuse : Int} {dead : Bool} {rs : List Rep} (h : DiskRep w bd mb fuse dead rs) (s : ByteArray) (hs : 0 < s.size ∧ s.size ≤ 16) (hno : repOf rs s = none) (hfew : rs.length < 16) :
    ∃ w', (Instr.mapUpdate 45 (.map (some mb)) (.string s) (.pointer (some ⟨w.heap.size, 0, none⟩))).run Try.prog (w.alloc (.cells #[.slice none 0 0, .int .i64 0, .string s] 59)) = .ok () w' ∧
      DiskRep w' bd mb fuse dead (rs ++ [newRep s w.heap.size]) ∧ Fr (Is (some mb)) w w' ∧ w'.heap.size = w.heap.size + 1 := by
  obtain ⟨w1, hw1⟩ : ∃ w1, w.alloc (.cells #[.slice none 0 0, .int .i64 0, .string s] 59) = w1 := ⟨_, rfl⟩
  have hF1 : Fr No w w1 := by rw [← hw1]; exact Fr.alloc _ _ _
  have hnew : w1.heap[w.heap.size]? = some (.cells #[.slice none 0 0, .int .i64 0, .string s] 59) := by rw [← hw1]; exact heap_new _ _
  have hsz : w1.heap.size = w.heap.size + 1 := by rw [← hw1]; simp
  have h1 := h.fr hF1 fun _ _ x => x
  obtain ⟨w', hrun, hm, hF, hsz'⟩ := h1.map.put uMap uStr s w.heap.size (by
    rw [List.find?_map]; simp only [Option.map_eq_none_iff]
    exact hno)
  have hlt := h.lt
  have hn := h.nodup
  have hnw : w.heap.size ∉ own bd mb rs := fun e => by have := hlt _ e; omega
  have hne : mb ≠ w.heap.size := fun e => hnw (by simp [own, ← e])
  have hbm : bd ≠ mb := fun e => by simp [own, e] at hn
  refine ⟨w', by rw [hw1]; exact hrun, ⟨hF.at h1.box (fun e => hbm (by cases e; rfl)), ?_, ?_, ?_, h.low, h.high, by simp; omega⟩, (hF1.of_no.trans hF : Fr (Is (some mb)) w w'), by omega⟩
  · simpa [newRep] using hm
  · intro r hr
    simp only [List.mem_append, List.mem_singleton] at hr
    rcases hr with hr | rfl
    · refine (h1.files r hr).fr hF fun k hk e => ?_
      cases e
      simp only [own, List.nodup_cons] at hn
      exact hn.2.1 (List.mem_flatMap.2 ⟨r, hr, hk⟩)
    · exact ⟨hF.at hnew (fun e => hne (by cases e; rfl)), Sl.nil _ _ _, Nat.le_refl _, by simp [newRep], hs⟩
  · have : own bd mb (rs ++ [newRep s w.heap.size]) = own bd mb rs ++ [w.heap.size] := by simp [own, Rep.blocks, newRep]
    rw [this, List.nodup_append]
    exact ⟨hn, by simp, fun a ha b hb e => hnw (by simp at hb; subst hb; rw [← e]; exact ha)⟩
end Go.Proofs.Ythjpjekaiflibaa
