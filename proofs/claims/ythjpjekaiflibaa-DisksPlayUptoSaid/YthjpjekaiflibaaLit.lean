/- Literals of bytes and of numbers; bytes as a string. -/
import Derived.Test.YthjpjekaiflibaaAt
import Derived.Laws.BytesArg
import Derived.Laws.IdiomStrings
namespace Go.Proofs.Ythjpjekaiflibaa
open Go.RowKit
/-- Bytes as a string. -/
theorem By.str {w : World} {v : Value} {g : Option Nat} {bs : List UInt8} (h : By w v g bs) : (convert 28 9 v).run Try.prog w = .ok (.string ⟨bs.toArray⟩) w := by
  rcases Sl.out h with ⟨rfl, _, _, h0⟩ | ⟨b, o, cap, rfl, _, h1, h2, _, hc, _⟩
  · have : bs = [] := by cases bs with
      | nil => rfl
      | cons _ _ => cases h0
    subst this
    exact run_convert_bytes_nil w _ _ uBytes u8 0 0 _ uStr
  · refine run_convert_bytes_back w _ _ _ ⟨b, o, none⟩ cap bs uBytes u8 uStr fun j hj => ?_
    have h3 := hc j (encB bs[j]) (by simp [List.getElem?_eq_getElem hj])
    have e : (Addr.mk b o none).add j = ⟨b, o + j, none⟩ := by
      simp only [Addr.add]
      split
      · rename_i hj; rw [hj]; rfl
      · rfl
    rw [e]
    exact h3
/-- A literal of bytes, of whole numbers. -/
theorem By.lit (w : World) (bs : List UInt8) (hn : bs.length ≤ maxLen) : By (w.alloc (.cells (bs.map encB).toArray 5)) (.slice (some ⟨w.heap.size, 0, none⟩) bs.length bs.length) (some w.heap.size) bs := by
  have h := Sl.made w 5 1 bs.length (bs.map encB).toArray bs.length (Nat.le_refl _) hn (by simp)
  rw [show (bs.map encB).toArray.toList.take (bs.length * 1) = bs.map encB from List.take_of_length_le (by simp)] at h
  exact h
theorem Is64.lit (w : World) (zs : List Int) (hn : zs.length ≤ maxLen) : Is64 (w.alloc (.cells (zs.map (Value.int .i64)).toArray 3)) (.slice (some ⟨w.heap.size, 0, none⟩) zs.length zs.length) (some w.heap.size) zs := by
  have h := Sl.made w 3 1 zs.length (zs.map (Value.int .i64)).toArray zs.length (Nat.le_refl _) hn (by simp)
  rw [show (zs.map (Value.int .i64)).toArray.toList.take (zs.length * 1) = zs.map (Value.int .i64) from List.take_of_length_le (by simp)] at h
  exact Sl.src h
theorem DiskAt.no {w : World} {bd : Nat} {M : DM} {O : List Nat} (h : DiskAt w bd M O) (k : Obj) : DiskAt (w.alloc k) bd M O ∧ Mv w (w.alloc k) O O ∧ ∀ j, some w.heap.size = some j → j ∉ O :=
  ⟨h.fr (Fr.alloc No _ _) fun _ _ x => x, Mv.of_no (Fr.alloc No _ _), fun j e hj => by have := h.lt _ hj; cases e; omega⟩
theorem Bs.str {w : World} {v : Value} {g : Option Nat} {bs : List UInt8} (h : Bs w v g bs) : (convert 28 9 v).run Try.prog w = .ok (.string ⟨bs.toArray⟩) w := by
  rcases Src.out h with ⟨rfl, _, h0⟩ | ⟨a, cap, rfl, h1, h2, hc⟩
  · have : bs = [] := by cases bs with
      | nil => rfl
      | cons _ _ => cases h0
    subst this
    exact run_convert_bytes_nil w _ _ uBytes u8 0 0 _ uStr
  · exact run_convert_bytes_back w _ _ _ a cap bs uBytes u8 uStr fun j hj => hc j (encB bs[j]) (by simp [List.getElem?_eq_getElem hj])
theorem Mv.no {w w' : World} {O : List Nat} (h : Mv w w' [] O) : Fr No w w' := h.1.mono fun _ _ hi => absurd hi List.not_mem_nil
end Go.Proofs.Ythjpjekaiflibaa
