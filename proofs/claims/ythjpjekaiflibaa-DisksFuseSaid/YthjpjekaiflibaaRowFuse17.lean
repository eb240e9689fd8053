/- The row of DisksFuse. -/
import Derived.Test.YthjpjekaiflibaaRows
import Derived.Test.YthjpjekaiflibaaFuse17
import Derived.WalkKit
import Derived.ProofKit
import Derived.OpenShut
import Derived.ShutString
import Derived.ChangeOld
import Derived.Below
namespace Go.Proofs.Ythjpjekaiflibaa.disksFuse
open Go.ChangeShapes Go.WideShapes Go.ChangeAt Go.RowKit

theorem own : ownKnob Try.prog.godebug = none := by kernel_rfl
theorem laidOut : laidOutB Try.prog = true := by kernel_rfl
set_option maxRecDepth 100000 in
/-- An array of a hundred bytes that came in. -/
theorem open_hundred {H : Type} {enc : TypeId × Value → H} {w : World} {base : Nat} {spare : Nat → Bool} {held : Bool} {fuel : Nat} {cs : List Value} {x : DataW H × List MemPlace} (h : DataW.trod enc Try.prog w base spare held fuel 22 cs = some x) :
    ∃ bs : List UInt8, cs = bs.map encB ∧ bs.length = 100 := by
  obtain ⟨xs, m, _, _, hl, hx, hf⟩ := DataW.trod_array Try.underlying22 h
  have hC : Try.prog.cellsOf 22 = 100 := by kernel_rfl
  have k8 : Try.prog.cellsOf 5 = 1 := by kernel_rfl
  rw [hC] at hl
  have each : ∀ i (hi : i < 100), ∃ b : UInt8, cs[i]'(by omega) = encB b := by
    intro i hi
    have h1 := hf i hi
    rw [k8, Nat.mul_one, List.drop_eq_getElem_cons (by omega), List.getElem?_eq_getElem (by omega)] at h1
    obtain ⟨z, e, _, hz⟩ := DataW.trod_int u8 h1
    simp only [List.take_succ_cons, List.take_zero, List.cons.injEq, and_true] at e
    have h2 : IntKind.u8.min ≤ z ∧ z ≤ IntKind.u8.max := by simpa [Lit.wf] using hz
    have h3 : (0 : Int) ≤ z ∧ z ≤ 255 := h2
    refine ⟨UInt8.ofNat z.toNat, ?_⟩
    rw [e]
    simp only [encB, UInt8.toNat_ofNat']
    congr 1
    omega
  refine ⟨(List.range 100).map fun i => if hi : i < 100 then (each i hi).choose else 0, ?_, by simp⟩
  apply List.ext_getElem (by simp [hl])
  intro i h1 h2
  have hi : i < 100 := by omega
  simp only [List.getElem_map, List.getElem_range, dif_pos hi]
  exact (each i hi).choose_spec
set_option maxRecDepth 100000 in
theorem lifted (os : Os) (started : os.Started) (H : Type) (enc : TypeId × Value → H) :
    ReturnsInHanded {} Try.checked os 3 .any (Rows.disksFuseSpec.pre6 enc Try.prog Try.f3 Rows.disksFuseRow.domain false) (Rows.disksFuseSpec.post enc Try.prog Try.f3 false true false false) := by
  refine returnsInHanded_of_change (C := Try.checked) own started (by kernel_rfl) Try.func3
    (ChangeSpec.witness6 (enc := enc) (C := Try.checked) false ⟨#[], #[.agg (Array.replicate 100 (.int .u8 0)), .int .u8 0], []⟩ 8 (by kernel_rfl) (by kernel_rfl) (by kernel_rfl) (by kernel_rfl)) ?_
  intro W base args ds gs before hval0 hW hcnd _
  have hval : ∀ (j : Nat) t v, Try.f3.params[j]? = some t → args[j]? = some v → Value.okWide Try.prog W .any base t v := hval0
  have hW' := hW
  obtain ⟨p, q, hA0, hV, rfl, hfz, hnd⟩ := hW
  have hA : DataW.TrodAll enc Try.prog W 0 (fun _ => true) true Try.f3.params.toList args.toList ds p := hA0
  rw [Try.params3] at hA hval
  obtain ⟨v0, vs0, d0, ds0, p0, q0, hargs, rfl, rfl, h0, r0⟩ := trodAll_cons hA
  obtain ⟨v1, vs1, d1, ds1, p1, q1, rfl, rfl, rfl, h1, r1⟩ := trodAll_cons r0
  obtain ⟨rfl, rfl, rfl⟩ := trodAll_nil r1
  obtain rfl : args = #[v0, v1] := by cases args; simp_all
  obtain ⟨rfl, rfl⟩ := trodVars_none hV
  have k0 := h0
  have lt0 : ∀ x ∈ p0, x.block < W.heap.size := by obtain ⟨m, hm⟩ := k0; exact DataW.trod_lt m _ _ _ hm
  obtain ⟨cs, rfl, _⟩ : ∃ cs, v0 = .agg cs ∧ cs.size = Try.prog.cellsOf 22 := by
    have hv := hval 0 22 v0 rfl rfl
    unfold Value.okWide at hv
    rw [Try.underlying22] at hv
    obtain ⟨cs, e, hs, _⟩ := hv
    exact ⟨cs, e, hs⟩
  obtain ⟨fuel, hf⟩ := h0
  obtain ⟨bs, hbs, hlen⟩ := open_hundred hf
  have hcs : cs = (bs.map encB).toArray := by
    have : cs.toList = bs.map encB := by simpa [Value.cells] using hbs
    rw [← this]
  obtain ⟨n, rfl, rfl, rfl, wn⟩ := open_int Try.underlying5 (hval 1 5 v1 rfl rfl) h1
  have hn : 0 ≤ n ∧ n ≤ 255 := by
    have : IntKind.u8.min ≤ n ∧ n ≤ IntKind.u8.max := by simpa [Lit.wf] using wn
    exact this
  obtain ⟨n', rfl⟩ : ∃ k : Nat, n = k := ⟨n.toNat, by omega⟩
  clear hA0 hval0
  have hwalk := fuse17_any (R := fun e W' => e = .returned (.bool true) ∧ Below W.heap.size W W') W bs hlen n' (by omega) fun W' hF => ⟨rfl, hF.toBelow fun _ _ x => x⟩
  rw [← hcs] at hwalk
  refine hwalk.mono fun e W' ⟨he, bel⟩ => ?_
  subst he
  exact ⟨_, rfl, _, _, _, [], _, [], hW', trodAll_mk1 (shut_bool Try.underlying4 _), (trodAll_cons_mk (Below.trod laidOut (by kernel_rfl) (of_decide_eq_true (by kernel_rfl)) k0 bel lt0) (trodAll_cons_mk (shut_int Try.underlying5 wn) trodAll_mk0)), rfl, bel.frame _, fun h => by cases h⟩
theorem proved : Rows.DisksFuseSaid :=
  OpenClaim.holds_of_wide 3 Try.f3 rfl rfl rfl rfl rfl rfl rfl ⟨rfl, rfl, rfl, rfl, rfl⟩ rfl rfl rfl rfl rfl (by kernel_rfl) Try.func3 (by kernel_rfl)
    (of_decide_eq_true (by kernel_rfl)) (by unfold Func.isWrapper; first | (rw [if_pos (by decide +kernel)]; kernel_rfl) | (rw [if_neg (by decide +kernel)]; exact ⟨rfl, rfl⟩))
    (fun os started H enc _ => lifted os started H enc)
end Go.Proofs.Ythjpjekaiflibaa.disksFuse
