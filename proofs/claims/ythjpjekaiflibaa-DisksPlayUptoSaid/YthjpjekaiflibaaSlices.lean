/- slices.Clip, slices.Clone at bytes. -/
import Derived.Test.YthjpjekaiflibaaDisk2
namespace Go.Proofs.Ythjpjekaiflibaa
open Go.RowKit

/-- What is there lies in memory that was not there. -/
def New (w : World) (g : Option Nat) : Prop := ∀ k, g = some k → w.heap.size ≤ k
theorem info8 : (Try.prog.info? 5).map (fun i => (i.zero, i.size, i.bytes)) = some (some (.int .u8 0), 1, 1) := by kernel_rfl
theorem uBytes : Try.prog.underlying 28 = some (.slice 5) := by kernel_rfl
theorem u8 : Try.prog.underlying 5 = some (.int .u8) := by kernel_rfl
theorem encB_one (bs : List UInt8) : ∀ u ∈ bs.map encB, u.oneCell' = true := by
  intro u hu
  obtain ⟨c, _, rfl⟩ := List.mem_map.1 hu
  rfl
theorem By.nil (w : World) : By w (.slice none 0 0) none [] := Sl.nil w _ _

set_option maxRecDepth 100000 in
set_option maxHeartbeats 400000 in
/-- CPS: whatever is wanted of the outcome. -/
theorem clip_any {R : Ending → World → Prop} (v : Value) (g : Option Nat) (bs : List UInt8) (w : World) (h : By w v g bs)
    (hR : ∀ v', By w v' g bs → (v' = .slice none 0 0 ↔ v = .slice none 0 0) → R (.returned v') w) :
    Calls Try.prog 26 #[v] w R := by
  have HR := Lib.hid hR
  clear hR
  have hl := Sl.len_le h
  unfold maxLen at hl
  obtain ⟨hlen, h2⟩ := h
  rcases h2 with ⟨rfl, rfl, h0⟩ | ⟨b, o, cap, cur, rfl, rfl, hb, h1, h2, h3, h4⟩
  · have hbs : bs = [] := List.eq_nil_of_length_eq_zero h0
    subst hbs
    go_enter Try.func26, Try.ntmps26
    go_wp2
    exact HR.out _ (By.nil _) (by simp)
  · obtain ⟨n, hn⟩ : ∃ n, n = bs.length := ⟨_, rfl⟩
    have HS : Hid (By w (.slice (some ⟨b, o, none⟩) n n) (some b) bs) := by
      subst hn
      exact ⟨hlen, .inr ⟨b, o, bs.length, cur, rfl, rfl, hb, Nat.le_refl _, by unfold maxLen; omega, by omega, h4⟩⟩
    have HR' := Lib.hid (HR.out _ HS.out (by simp))
    clear HR HS
    rw [← hn] at hl h1 ⊢
    have g1 : (n : Int) ≤ (cap : Int) := by omega
    have g2 : (0 : Int) ≤ (n : Int) := by omega
    clear hn h3 h4 hlen hb
    go_enter Try.func26, Try.ntmps26
    go_wp2
    exact HR'.out
set_option maxRecDepth 100000 in
set_option maxHeartbeats 400000 in
theorem clone_any {R : Ending → World → Prop} (v : Value) (g : Option Nat) (bs : List UInt8) (w : World) (h : Bs w v g bs) (hmax : bs.length ≤ 140737488355328)
    (hR : ∀ v' g' w', By w' v' g' bs → Fr No w w' → New w g' → (v' = .slice none 0 0 ↔ v = .slice none 0 0) → R (.returned v') w') :
    Calls Try.prog 27 #[v] w R := by
  have HR := Lib.hid hR
  clear hR
  obtain ⟨i0, hi, hz0, hz1, hz2⟩ := info_parts info8
  have qS := fun (w : World) (p : Option Addr) (n c : Nat) => Lib.run_eql_slice_nil (P := Try.prog) w _ _ p n c 0 0 uBytes
  have h' := Lib.hid (h.fr (Fr.alloc No w (.cells #[] 5)) (fun _ _ x => x))
  have hE : Sl (w.alloc (.cells #[] 5)) 5 1 (.slice (some ⟨w.heap.size, 0, none⟩) 0 0) (some w.heap.size) 0 [] := by simpa using Sl.made w 5 1 0 #[] 0 (by omega) (by unfold maxLen; omega) (by simp)
  rcases Src.out h with ⟨rfl, h0, h1⟩ | ⟨a, cap, rfl, hr⟩
  · have hbs : bs = [] := List.eq_nil_of_length_eq_zero h0
    subst hbs
    go_enter Try.func27, Try.ntmps27
    go_wp2
    exact HR.out _ none _ (By.nil _) (Fr.refl _ _) (fun k e => by cases e) (by simp)
  · clear hr
    have hmx := Lib.hid hmax
    obtain ⟨n, hn⟩ : ∃ n, n = bs.length := ⟨_, rfl⟩
    have hN := Lib.hid hn
    rw [← hn]
    rw [← hn] at h
    have H := Lib.hid h
    clear hn h hmax
    go_enter Try.func27, Try.ntmps27
    go_wp2_with (at_builtin; refine wpList_appendSl _ rfl _ _ 28 rfl 5 i0 (.int .u8 0) 1 1 uBytes hi hz0 hz1 hz2 rfl (by omega) _ _ _ _ rfl hE _ _ _ _ rfl (by rw [hN.out]; exact h'.out) (encB_one bs) (by have := hmx.out; unfold maxLen; omega) (by have := hmx.out; omega) ?_; intro p' c' g' w' hs hF hg)
    refine HR.out _ g' _ (by simpa [By] using hs) ((Fr.alloc No w _).step hF fun i hi e => by cases e; omega) (fun k e => ?_) ?_
    · rcases hg with rfl | ⟨rfl, _⟩ <;> cases e <;> simp
    · simp
      rintro rfl _ _
      rcases hs.2 with ⟨_, rfl, _⟩ | ⟨b, o, cap, cur, e, _⟩
      · rcases hg with e | ⟨e, _⟩ <;> cases e
      · cases e
end Go.Proofs.Ythjpjekaiflibaa
