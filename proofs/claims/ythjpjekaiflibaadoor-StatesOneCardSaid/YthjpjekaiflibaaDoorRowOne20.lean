/- Proved: whatever the asks, StatesOne answers true and leaves its argument as it was (the given card StatesOneCardSaid). Its conditions: those of the card alone (the table sums.table starts as the program lays it). -/
import Derived.Test.YthjpjekaiflibaaDoorCards
import Derived.Test.YthjpjekaiflibaaDoorTie
import Derived.Test.YthjpjekaiflibaaDoorLaid
import Derived.Test.YthjpjekaiflibaaDoorOne20
import Derived.Test.YthjpjekaiflibaaDoorOpenB
import Derived.ShutString
import Derived.ChangeOld
import Derived.Below
namespace Go.Proofs.YthjpjekaiflibaaDoor.statesOne
open Go.ChangeShapes Go.WideShapes Go.ChangeAt Go.RowKit Go.Deep
section
variable {H : Type} {enc : TypeId × Value → H} {w : World} {base : Nat} {spare : Nat → Bool} {held : Bool}
set_option maxRecDepth 100000 in
theorem open_ask {fuel : Nat} {cs : List Value} {x : DataW H × List MemPlace} (h : DataW.trod enc Tryd.prog w base spare held fuel 89 cs = some x) :
    ∃ A : AskD, cs = [.int .u8 A.term, .int .u8 A.vote, .int .u8 A.fuse, .int .i64 A.loss] ∧ A.term < 256 ∧ A.vote < 256 ∧ A.fuse < 256 ∧ -9223372036854775808 ≤ A.loss ∧ A.loss ≤ 9223372036854775807 := by
  obtain ⟨xs, n, _, hxx, hl, hx, hf⟩ := DataW.trod_struct Tryd.underlying89 h
  have hC : Tryd.prog.cellsOf 89 = 4 := by kernel_rfl
  rw [hC] at hl
  have k8 : Tryd.prog.cellsOf 5 = 1 := by kernel_rfl
  have kI : Tryd.prog.cellsOf 3 = 1 := by kernel_rfl
  match cs, hl, xs, hx with
  | [c0, c1, c2, c3], _, [y0, y1, y2, y3], _ =>
    have h0 := hf 0 _ rfl
    have h1 := hf 1 _ rfl
    have h2 := hf 2 _ rfl
    have h3 := hf 3 _ rfl
    simp only [k8, kI, List.drop_succ_cons, List.drop_zero, List.take_succ_cons, List.take_zero, List.getElem?_cons_zero, List.getElem?_cons_succ, List.getElem_toArray, List.getElem_cons_zero, List.getElem_cons_succ] at h0 h1 h2 h3
    obtain ⟨z0, e0, _, w0⟩ := DataW.trod_int Tryd.underlying5 h0
    obtain ⟨z1, e1, _, w1⟩ := DataW.trod_int Tryd.underlying5 h1
    obtain ⟨z2, e2, _, w2⟩ := DataW.trod_int Tryd.underlying5 h2
    obtain ⟨z3, e3, _, w3⟩ := DataW.trod_int (k := .i64) (by kernel_rfl) h3
    have b8 : ∀ z : Int, (Lit.int .u8 z).wf = true → 0 ≤ z ∧ z ≤ 255 := fun z h => by
      have : IntKind.u8.min ≤ z ∧ z ≤ IntKind.u8.max := by simpa [Lit.wf] using h
      exact this
    have b0 := b8 _ w0
    have b1 := b8 _ w1
    have b2 := b8 _ w2
    have b3 : IntKind.i64.min ≤ z3 ∧ z3 ≤ IntKind.i64.max := by simpa [Lit.wf] using w3
    cases e0; cases e1; cases e2; cases e3
    refine ⟨⟨z0.toNat, z1.toNat, z2.toNat, z3⟩, ?_, by show z0.toNat < 256; omega, by show z1.toNat < 256; omega, by show z2.toNat < 256; omega, b3.1, b3.2⟩
    show _ = [Value.int .u8 ((z0.toNat : Nat) : Int), Value.int .u8 ((z1.toNat : Nat) : Int), Value.int .u8 ((z2.toNat : Nat) : Int), Value.int .i64 z3]
    rw [show ((z0.toNat : Nat) : Int) = z0 by omega, show ((z1.toNat : Nat) : Int) = z1 by omega, show ((z2.toNat : Nat) : Int) = z2 by omega]
theorem open_asks {fuel : Nat} {cs : List Value} {x : DataW H × List MemPlace} (h : DataW.trod enc Tryd.prog w base spare held fuel 86 cs = some x) : ∃ (v : Value) (L : List AskD), cs = [v] ∧ AsksV w v L := by
  have hC : Tryd.prog.cellsOf 89 = 4 := by kernel_rfl
  rcases open_slice Tryd.underlying86 h with ⟨rfl, _⟩ | ⟨a, len, cap, m, n, D, Pl, rfl, _, h1, h2, h3, hx, h4⟩
  · exact ⟨_, [], rfl, none, 0, rfl, Nat.le_refl _, Nat.zero_le _, .inl rfl⟩
  · rw [hC] at h4
    have hlm : len ≤ m := by rw [h3]; split <;> omega
    have each : ∀ i, i < len → ∃ A : AskD, (A.term < 256 ∧ A.vote < 256 ∧ A.fuse < 256 ∧ -9223372036854775808 ≤ A.loss ∧ A.loss ≤ 9223372036854775807) ∧ ∀ j u, [Value.int .u8 A.term, .int .u8 A.vote, .int .u8 A.fuse, .int .i64 A.loss][j]? = some u → w.cell? ((a.add (i * 4)).add j) = some u := by
      intro i hi
      obtain ⟨cs', hc, ht⟩ := h4 i (by omega)
      obtain ⟨A, hA, hs⟩ := open_ask ht
      refine ⟨A, hs, fun j u hj => ?_⟩
      rw [← hA] at hj
      obtain ⟨_, hcl, hat⟩ := World.cells?_some hc
      have hj4 := (List.getElem?_eq_some_iff.1 hj).1
      rw [hat j (by omega)]
      exact hj
    by_cases h0 : len = 0
    · subst h0
      exact ⟨_, [], rfl, some a, cap, rfl, Nat.zero_le _, h2, .inl rfl⟩
    · obtain ⟨A0, _, hc0⟩ := each 0 (by omega)
      have hc1 := hc0 0 _ rfl
      rw [show (a.add (0 * 4)).add 0 = a from rfl] at hc1
      have ha := spot_of_cell hc1
      have hlt := lt_of_cell hc1
      generalize a.block = b at ha hlt
      generalize a.off = o at ha
      subst ha
      have : ∃ L : List AskD, L.length = len ∧ ∀ i (hi : i < L.length), AskAt w b o i L[i] := by
        refine ⟨(List.range len).map fun i => if hi : i < len then (each i hi).choose else ⟨0, 0, 0, 0⟩, by simp, fun i hi => ?_⟩
        have hi' : i < len := by simpa using hi
        obtain ⟨⟨b1, b2, b3, b4, b5⟩, hcell⟩ := (each i hi').choose_spec
        simp only [List.getElem_map, List.getElem_range, dif_pos hi']
        have hc : ∀ j u, _ → w.cell? ⟨b, o + i * 4 + j, none⟩ = some u := fun j u hj => by
          have := hcell j u hj
          rwa [add_mk, add_mk] at this
        exact ⟨hc 0 _ rfl, hc 1 _ rfl, hc 2 _ rfl, hc 3 _ rfl, b1, b2, b3, b4, b5⟩
      obtain ⟨L, hL, hE⟩ := this
      exact ⟨_, L, rfl, _, cap, by rw [hL], by omega, h2, .inr ⟨b, o, rfl, hlt, hE⟩⟩
end
set_option maxRecDepth 100000 in
theorem contract (H : Type) (enc : TypeId × Value → H) (W : World) (base : Nat) (args : Array Value) (ds gs : List (DataW H)) (before : List MemPlace)
    (hval : ∀ (j : Nat) t v, Tryd.f7.params[j]? = some t → args[j]? = some v → Value.okWide Tryd.prog W .any base t v)
    (hW : DataW.Whole enc Tryd.prog Tryd.f7.params.toList Rows.statesOneSpec.vars false W args.toList ds gs before) (hL : laidMetH Tryd.prog Rows.statesOneRow.laid W) :
    Calls Tryd.prog 7 args W fun e W' => ∃ v, e = .returned v ∧ Rows.statesOneSpec.post enc Tryd.prog Tryd.f7 false true false false W args v W' := by
  have hW' := hW
  obtain ⟨p, q, hA0, hV, rfl, hfz, hnd⟩ := hW
  have hA : DataW.TrodAll enc Tryd.prog W 0 (fun _ => true) true Tryd.f7.params.toList args.toList ds p := hA0
  rw [Tryd.params7] at hA hval
  obtain ⟨v0, vs0, d0, ds0, p0, q0, hargs, rfl, rfl, h0, r0⟩ := trodAll_cons hA
  obtain ⟨rfl, rfl, rfl⟩ := trodAll_nil r0
  obtain rfl : args = #[v0] := by cases args; simp_all
  obtain ⟨rfl, rfl⟩ := trodVars_none hV
  have k0 := h0
  have lt0 : ∀ x ∈ p0, x.block < W.heap.size := by obtain ⟨m, hm⟩ := k0; exact DataW.trod_lt m _ _ _ hm
  obtain ⟨a, len, cap, rfl⟩ := okWide_slice Tryd.underlying86 (hval 0 86 v0 rfl rfl)
  obtain ⟨fuel, hf⟩ := h0
  obtain ⟨v, L, hcs, hLs⟩ := open_asks hf
  have hv : v = .slice a len cap := by simpa [Value.cells] using hcs.symm
  subst hv
  clear hA0
  obtain ⟨hT, hz⟩ := tabW hL
  refine (one20_any (R := fun e W' => e = .returned (.bool true) ∧ Fr No W W') W hT hz _ L hLs fun w' h => ⟨rfl, h⟩).mono fun e W' ⟨he, hF⟩ => ?_
  subst he
  have bel : Below W.heap.size W W' := hF.toBelow fun _ _ x => x
  exact ⟨_, rfl, _, _, _, [], _, [], hW', trodAll_mk1 (shut_bool Tryd.underlying4 _), (trodAll_cons_mk (Below.trod laidOut (by kernel_rfl) (of_decide_eq_true (by kernel_rfl)) k0 bel lt0) trodAll_mk0), rfl, bel.frame _, fun h => by cases h⟩
theorem laid_met (os : Os) : laidMet Tryd.prog Rows.statesOneRow.laid ((laidWorld os).forCall (fun _ _ => 0) ⟨#[], #[.slice none 0 0], []⟩).memory :=
  laidMet_of_run' 8 (by kernel_rfl) (by kernel_rfl)
theorem reads (os : Os) {H : Type} (enc : TypeId × Value → H) : ∃ places, DataW.whole enc Tryd.prog ((laidWorld os).forCall (fun _ _ => 0) ⟨#[], #[.slice none 0 0], []⟩).memory Tryd.f7.params.toList Rows.statesOneSpec.vars false #[Value.slice none 0 0].toList 8 = some ([.nil], [], places) :=
  ⟨[], by kernel_rfl⟩
set_option maxRecDepth 100000 in
theorem lifted (os : Os) (started : os.Started) (H : Type) (enc : TypeId × Value → H) (F : Stop.Interp) :
    ReturnsInHanded {} Tryd.checked os 7 .any ((OpenSpec.ofChange Rows.statesOneSpec).preRow enc Tryd.prog Tryd.f7 Rows.statesOneRow.domain false Rows.statesOneRow.laid) (((OpenSpec.ofChange Rows.statesOneSpec).at F).post enc Tryd.prog Tryd.f7 false true false false) := by
  obtain ⟨places, hx⟩ := reads os enc
  refine returnsInHanded_of_row (C := Tryd.checked) (s := OpenSpec.ofChange Rows.statesOneSpec) ownKnob0 started (by kernel_rfl) Tryd.func7
    (witness_row_at (enc := enc) (C := Tryd.checked) false (laidWorld os) #[.slice none 0 0] rfl (by kernel_rfl) (by kernel_rfl) (by kernel_rfl)
      (OpenSpec.preRow_of_cond 8 hx (by kernel_rfl) (fun k hk => by cases hk) (by kernel_rfl) (laid_met os))) ?_
  intro W base args ds gs before hval hW _ _ _ hL _ _
  exact contract H enc W base args ds gs before hval hW hL
theorem said : Rows.StatesOneSaid :=
  OpenClaim.holds_of_cond 7 Tryd.f7 rfl rfl rfl rfl rfl rfl rfl ⟨rfl, rfl, rfl, rfl, rfl⟩ rfl rfl rfl rfl rfl (by kernel_rfl) Tryd.func7 (by kernel_rfl)
    (of_decide_eq_true (by kernel_rfl)) (by unfold Func.isWrapper; first | (rw [if_pos (by decide +kernel)]; kernel_rfl) | (rw [if_neg (by decide +kernel)]; exact ⟨rfl, rfl⟩))
    (fun os started H enc _ F => by rw [OpenClaim.pre_eq_preRow]; exact lifted os started H enc F)
theorem plain (f : FuncId) (fn : Func) (hf : Tryd.pinned.checked.prog.funcNamed "countinghouse/countinghouselaw20.StatesOne" = some f) (hfn : Tryd.pinned.checked.prog.funcs[f]? = some fn) :
    true = Tryd.pinned.checked.prog.looks [] ∧ ∀ (j : Nat) t, fn.params[j]? = some t → Tryd.pinned.checked.prog.wantsStandIn t = false := by
  obtain rfl : f = 7 := Option.some.inj ((show Tryd.prog.funcNamed "countinghouse/countinghouselaw20.StatesOne" = some 7 by kernel_rfl).symm.trans hf) |>.symm
  obtain rfl : fn = Tryd.f7 := (Option.some.inj (Tryd.func7.symm.trans hfn)).symm
  refine ⟨by kernel_rfl, fun j t ht => ?_⟩
  rw [Tryd.params7] at ht
  have := Array.mem_of_getElem? ht
  simp only [List.mem_toArray, List.mem_cons, List.not_mem_nil, or_false] at this
  subst this
  exact (show Tryd.prog.wantsStandIn 86 = false by kernel_rfl)
theorem card : Rows.StatesOneCardSaid :=
  Claim7.holds_tied_plain_at .later [] _ _ _ _ said (fun _ h => by cases h) (by kernel_rfl) (fun _ h => by cases h) statesOne_row_tie rfl ⟨rfl, rfl⟩ (by kernel_rfl) rfl plain (by kernel_rfl)
end Go.Proofs.YthjpjekaiflibaaDoor.statesOne
