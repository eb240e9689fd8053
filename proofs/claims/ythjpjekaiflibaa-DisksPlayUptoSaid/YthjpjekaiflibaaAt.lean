/- A disk in memory, as the model has it; its own blocks. Each call, said of that. -/
import Derived.Test.YthjpjekaiflibaaLift
import Derived.Test.YthjpjekaiflibaaSortS
namespace Go.Proofs.Ythjpjekaiflibaa
open Go.RowKit

def DM.lift (M : DM) (loss : List Int) : DM := ⟨liftAll loss 0 (sortL (M.files.map fun f => f.name.data.toList)) M.files, -1, false⟩
/-- The disk that lies at block bd; O: its own blocks. -/
def DiskAt (w : World) (bd : Nat) (M : DM) (O : List Nat) : Prop := ∃ mb rs, DiskRep w bd mb M.fuse M.dead rs ∧ files rs = M.files ∧ O = own bd mb rs
/-- From w to w' nothing but O's blocks was written; O' has those, and new ones. -/
def Mv (w w' : World) (O O' : List Nat) : Prop := Fr (· ∈ O) w w' ∧ ∀ k, k ∈ O' → k ∈ O ∨ w.heap.size ≤ k
theorem Mv.refl (w : World) (O : List Nat) : Mv w w O O := ⟨Fr.refl _ _, fun _ h => .inl h⟩
theorem Mv.trans {a b c : World} {O P Q : List Nat} (h : Mv a b O P) (k : Mv b c P Q) : Mv a c O Q := by
  refine ⟨h.1.step k.1 fun i hi hp => ?_, fun x hx => ?_⟩
  · rcases h.2 i hp with h' | h'
    · exact h'
    · omega
  · rcases k.2 x hx with hp | hp
    · exact h.2 x hp
    · have := h.1.size; exact .inr (by omega)
theorem Mv.of_no {w w' : World} {O : List Nat} (h : Fr No w w') : Mv w w' O O := ⟨h.of_no, fun _ h => .inl h⟩
theorem DiskAt.fr {S : Nat → Prop} {w w' : World} {bd : Nat} {M : DM} {O : List Nat} (h : DiskAt w bd M O) (hF : Fr S w w') (hs : ∀ k, k ∈ O → ¬ S k) : DiskAt w' bd M O := by
  obtain ⟨mb, rs, h1, h2, rfl⟩ := h
  exact ⟨mb, rs, h1.fr hF hs, h2, rfl⟩
theorem DiskAt.lt {w : World} {bd : Nat} {M : DM} {O : List Nat} (h : DiskAt w bd M O) : ∀ k, k ∈ O → k < w.heap.size := by
  obtain ⟨mb, rs, h1, h2, rfl⟩ := h
  exact h1.lt
theorem DiskAt.mem {w : World} {bd : Nat} {M : DM} {O : List Nat} (h : DiskAt w bd M O) : bd ∈ O := by
  obtain ⟨mb, rs, h1, h2, rfl⟩ := h
  simp [own]
theorem of_left {bd mb : Nat} {rs : List Rep} {w w' : World} {M : DM} (h : Left bd mb rs w w' M) : ∃ O', DiskAt w' bd M O' ∧ Mv w w' (own bd mb rs) O' := by
  obtain ⟨rs', h1, h2, h3, h4⟩ := h
  exact ⟨_, ⟨mb, rs', h1, h2, rfl⟩, h3, h4⟩

section
variable {w : World} {bd : Nat} {M : DM} {O : List Nat} (h : DiskAt w bd M O)
theorem disk_new {R : Ending → World → Prop} (w : World) (hR : ∀ bd O w', DiskAt w' bd ⟨[], -1, false⟩ O → Mv w w' [] O → bd ∈ O → R (.returned (.pointer (some ⟨bd, 0, none⟩))) w') :
    Calls Try.prog 7 #[] w R := by
  refine (new_any w).mono ?_
  rintro e w' ⟨rfl, rfl⟩
  have hmap : MapOf (w.alloc (.map #[] 0)) w.heap.size [] := ⟨#[], 0, heap_new w _, MapKept.stamped_empty 0, rfl⟩
  have hsz : (w.alloc (.map #[] 0)).heap.size = w.heap.size + 1 := by simp
  have hD : DiskRep ((w.alloc (.map #[] 0)).alloc (.cells #[.map (some w.heap.size), .int .i64 (-1), .bool false] 47)) (w.heap.size + 1) w.heap.size (-1) false [] := by
    refine ⟨by rw [← hsz]; exact heap_new _ _, ?_, by simp, by simp [own], by omega, by omega, by simp⟩
    exact hmap.fr (Fr.alloc No _ _) fun x => x
  refine hR _ _ _ ⟨_, [], hD, rfl, rfl⟩ ⟨((Fr.alloc _ w _).trans (Fr.alloc _ _ _)), fun k hk => ?_⟩ (by simp [own])
  simp [own] at hk
  right; omega
include h
theorem disk_add {R : Ending → World → Prop} (s : ByteArray) (v : Value) (gv : Option Nat) (bs : List UInt8) (hb : Bs w v gv bs) (hgv : ∀ k, gv = some k → k ∉ O) (hmax : bs.length ≤ 140737488355328)
    (hR : ∀ c w' M' O', M.add s bs = (c, M') → DiskAt w' bd M' O' → Mv w w' O O' → R (.returned (.int .i64 c)) w') :
    Calls Try.prog 9 #[.pointer (some ⟨bd, 0, none⟩), .string s, v] w R := by
  obtain ⟨mb, rs, h1, h2, rfl⟩ := h
  refine add_any h1 s v gv bs hb hgv hmax fun c w' M' hm hl => ?_
  obtain ⟨O', h3, h4⟩ := of_left hl
  exact hR c w' M' O' (by rw [← hm, h2]) h3 h4
theorem disk_sure {R : Ending → World → Prop} (s : ByteArray)
    (hR : ∀ c w' M' O', M.sure s = (c, M') → DiskAt w' bd M' O' → Mv w w' O O' → R (.returned (.int .i64 c)) w') :
    Calls Try.prog 17 #[.pointer (some ⟨bd, 0, none⟩), .string s] w R := by
  obtain ⟨mb, rs, h1, h2, rfl⟩ := h
  refine sure_any h1 s fun c w' M' hm hl => ?_
  obtain ⟨O', h3, h4⟩ := of_left hl
  exact hR c w' M' O' (by rw [← hm, h2]) h3 h4
theorem disk_put {R : Ending → World → Prop} (s : ByteArray) (v : Value) (gv : Option Nat) (bs : List UInt8) (hb : Bs w v gv bs) (hgv : ∀ k, gv = some k → k ∉ O)
    (hR : ∀ c w' M' O', M.put s bs = (c, M') → DiskAt w' bd M' O' → Mv w w' O O' → R (.returned (.int .i64 c)) w') :
    Calls Try.prog 18 #[.pointer (some ⟨bd, 0, none⟩), .string s, v] w R := by
  obtain ⟨mb, rs, h1, h2, rfl⟩ := h
  refine put_any h1 s v gv bs hb hgv fun c w' M' hm hl => ?_
  obtain ⟨O', h3, h4⟩ := of_left hl
  exact hR c w' M' O' (by rw [← hm, h2]) h3 h4
theorem disk_read {R : Ending → World → Prop} (s : ByteArray)
    (hR : ∀ v g bs c w', M.read s = (bs, c) → By w' v g bs → Fr No w w' → New w g → (c ≠ 0 → v = .slice none 0 0) → R (.returned (.tuple #[v, .int .i64 c])) w') :
    Calls Try.prog 11 #[.pointer (some ⟨bd, 0, none⟩), .string s] w R := by
  obtain ⟨mb, rs, h1, h2, rfl⟩ := h
  exact read_any h1 s fun v g bs c w' hm => hR v g bs c w' (by rw [← hm, h2])
theorem disk_fuse {R : Ending → World → Prop} (n : Int) (hn : n ≤ 9223372036854775807)
    (hR : ∀ w', DiskAt w' bd (M.setFuse n) O → Mv w w' O O → R (.returned (.tuple #[])) w') :
    Calls Try.prog 8 #[.pointer (some ⟨bd, 0, none⟩), .int .i64 n] w R := by
  obtain ⟨mb, rs, h1, h2, rfl⟩ := h
  exact fuse_any h1 n hn fun w' hd hf _ => hR w' ⟨mb, rs, hd, h2, rfl⟩ ⟨hf.mono fun i _ hi => own_burnt i hi, fun _ h => .inl h⟩
theorem disk_dead : Calls Try.prog 10 #[.pointer (some ⟨bd, 0, none⟩)] w fun e w' => e = .returned (.bool M.dead) ∧ w = w' := by
  obtain ⟨mb, rs, h1, h2, rfl⟩ := h
  exact dead_any h1
theorem disk_names {R : Ending → World → Prop} (hR : ∀ v g w', St w' v g (sortL (M.files.map fun f => f.name.data.toList)) → Fr No w w' → New w g → R (.returned v) w') :
    Calls Try.prog 20 #[.pointer (some ⟨bd, 0, none⟩)] w R := by
  obtain ⟨mb, rs, h1, h2, rfl⟩ := h
  refine names_any h1 sortS fun v g w' hs => hR v g w' ?_
  rw [← h2]
  simpa [files, List.map_map, Function.comp_def] using hs
theorem disk_lift {R : Ending → World → Prop} (vl : Value) (gl : Option Nat) (loss : List Int) (hl : Is64 w vl gl loss) (hgl : ∀ k, gl = some k → k ∉ O) (hz : ∀ z ∈ loss, -9223372036854775808 ≤ z ∧ z ≤ 9223372036854775807)
    (hR : ∀ w' O', DiskAt w' bd (M.lift loss) O' → Mv w w' O O' → R (.returned (.tuple #[])) w') :
    Calls Try.prog 12 #[.pointer (some ⟨bd, 0, none⟩), vl] w R := by
  obtain ⟨mb, rs, h1, h2, rfl⟩ := h
  refine lift_any h1 sortS vl gl loss hl hgl hz fun w' hL => ?_
  obtain ⟨O', h3, h4⟩ := of_left hL
  refine hR w' O' ?_ h4
  have e : (rs.map fun r => r.f.name.data.toList) = M.files.map fun f => f.name.data.toList := by rw [← h2]; simp [files, List.map_map, Function.comp_def]
  rw [e, h2] at h3
  exact h3
end
end Go.Proofs.Ythjpjekaiflibaa
