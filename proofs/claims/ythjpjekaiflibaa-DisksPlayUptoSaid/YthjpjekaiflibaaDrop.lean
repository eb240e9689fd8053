/- Drop: its literal, the call, a disk that is not there. -/
import Derived.Test.YthjpjekaiflibaaAt
import Derived.Test.YthjpjekaiflibaaVoid
namespace Go.Proofs.Ythjpjekaiflibaa
open Go.RowKit
set_option maxRecDepth 100000 in
set_option maxHeartbeats 400000 in
/-- Drop's literal: cb: the block where d is captured. -/
theorem drop1_any {R : Ending → World → Prop} (bd mb : Nat) (s : ByteArray) (m : List (ByteArray × Nat)) (fb cb : Nat) (w : World) (hm : MapOf w mb m) (hn : w.cell? ⟨fb, 2, none⟩ = some (.string s)) (hd : w.cell? ⟨bd, 0, none⟩ = some (.map (some mb)))
    (hc : w.cell? ⟨cb, 0, none⟩ = some (.pointer (some ⟨bd, 0, none⟩)))
    (hR : ∀ w', MapOf w' mb (m.filter fun q => decide (q.1 ≠ s)) → Fr (Is (some mb)) w w' → w'.heap.size = w.heap.size → R (.returned (.tuple #[])) w') :
    Calls Try.prog 42 #[.pointer (some ⟨fb, 0, none⟩), .pointer (some ⟨cb, 0, none⟩)] w R := by
  obtain ⟨w', hrun, hm', hF, hsz⟩ := (hm.fr (Fr.drew No w) (fun x => x)).drop (P := Try.prog) uMap uStr s 9 0
  have HR := Lib.hid (hR w' hm' ((Fr.drew _ w).trans hF) hsz)
  clear hR hm hm' hF hsz
  go_enter Try.func42, Try.ntmps42
  go_region
  all_goals
    go_end0
    exact HR.out
theorem eg_drop1 : ∀ args w, (callFunc 42 args).run Try.prog w = .ok (.enter 42 args) w := by
  intro args w
  kernel_rfl
section
variable {bd mb : Nat} {fuse : Int} {dead : Bool} {rs : List Rep} {w : World} (h : DiskRep w bd mb fuse dead rs)
include h
theorem drop_does0 {R : Ending → World → Prop} (s : ByteArray) (cb : Nat) (hcb : w.cell? ⟨cb, 0, none⟩ = some (.pointer (some ⟨bd, 0, none⟩))) (hno : cb ∉ own bd mb rs)
    (hR : ∀ w', Left bd mb rs w w' ((DM.mk (files rs) fuse dead).drop s).2 → R (.returned (.int .i64 ((DM.mk (files rs) fuse dead).drop s).1)) w') :
    Calls Try.prog 22 #[.pointer (some ⟨bd, 0, none⟩), .string s, .int .i64 0, .bool false, .func (.func 42) #[] #[.pointer (some ⟨cb, 0, none⟩)]] w R := by
  have key : ∀ R' : Int → World → Prop, (∀ c w', R' c w' → R (.returned (.int .i64 c)) w') →
      Calls Try.prog 22 #[.pointer (some ⟨bd, 0, none⟩), .string s, .int .i64 0, .bool false, .func (.func 42) #[] #[.pointer (some ⟨cb, 0, none⟩)]] w (Answers R') →
      Calls Try.prog 22 #[.pointer (some ⟨bd, 0, none⟩), .string s, .int .i64 0, .bool false, .func (.func 42) #[] #[.pointer (some ⟨cb, 0, none⟩)]] w R :=
    fun R' h1 h2 => h2.mono fun e w' ⟨c, he, hc⟩ => by rw [he]; exact h1 c w' hc
  have same : ∀ M : DM, M = ⟨files rs, fuse, dead⟩ → Left bd mb rs w w M := fun M e => by
    subst e; exact ⟨rs, h, rfl, Fr.refl _ _, fun k hk => .inl hk⟩
  have died : Left bd mb rs w (w.setCell ⟨bd, 2, none⟩ (.bool true)) ⟨files rs, fuse, true⟩ :=
    ⟨rs, h.setDead true, rfl, (Fr.set w bd 2 _).mono fun i _ hi => own_burnt i hi, fun k hk => .inl hk⟩
  refine key (fun c w' => R (.returned (.int .i64 c)) w') (fun _ _ h => h) ?_
  by_cases ha : askedE dead s = 0
  · have hok := asked_ok ha
    have hfind := find_files rs s fuse dead
    cases hr : repOf rs s with
    | none =>
      rw [hr] at hfind
      simp only [Option.map_none] at hfind
      refine does_none bd mb fuse dead rs s 0 _ _ w h _ ha hr ?_
      have := hR w (by simp only [DM.drop, ha, if_true, hfind]; exact same _ rfl)
      simpa [DM.drop, ha, hfind] using this
    | some r =>
      rw [hr] at hfind
      simp only [Option.map_some] at hfind
      have hm := repOf_mem hr
      by_cases hf : fuse = 0
      · refine does_out_old bd mb fuse dead rs s 0 false _ _ w h _ ha hr (by omega) hf hok.1 ?_
        have := hR (w.setCell ⟨bd, 2, none⟩ (.bool true)) (by simp only [DM.drop, ha, if_true, hfind, if_pos hf]; exact died)
        simpa only [DM.drop, ha, if_true, hfind, if_pos hf] using this
      · refine does_old bd mb fuse dead rs s 0 false _ _ w h _ ha hr (by omega) hf eg_drop1 fun hD => ?_
        have hFb : Fr (· ∈ own bd mb rs) w (burntW w bd fuse) := (burntW_fr w bd fuse).mono fun i _ hi => own_burnt i hi
        have hfile := hD.files _ hm.1
        refine drop1_any bd mb s _ r.fb cb (burntW w bd fuse) hD.map (by have := hfile.c2; rw [hm.2] at this; exact this) hD.c0 (hFb.cell hcb hno) fun w' h1 h2 h3 => ⟨rfl, ?_⟩
        have hU := hD.remove s h1 h2
        have hL : Left bd mb rs w w' ⟨(files rs).filter fun f => decide (f.name ≠ s), burnt fuse, dead⟩ := by
          refine ⟨rs.filter fun q => decide (q.f.name ≠ s), hU, ?_, hFb.trans (h2.mono fun i _ hi => ?_), fun k hk => .inl (own_filter _ k hk)⟩
          · simp only [files, List.filter_map, Function.comp_def]
          · cases hi; simp [own]
        have := hR w' (by simp only [DM.drop, ha, if_true, hfind, if_neg hf]; exact hL)
        simpa only [DM.drop, ha, if_true, hfind, if_neg hf] using this
  · refine does_asked bd mb fuse dead rs s 0 false _ _ w h _ ha ?_
    have := hR w (by simp only [DM.drop, ha, if_false]; exact same _ rfl)
    simpa only [DM.drop, ha, if_false] using this
theorem drop_does {R : Ending → World → Prop} (s : ByteArray) (cb : Nat) (hcb : w.cell? ⟨cb, 0, none⟩ = some (.pointer (some ⟨bd, 0, none⟩))) (hno : cb ∉ own bd mb rs)
    (hR : ∀ c w' M', (DM.mk (files rs) fuse dead).drop s = (c, M') → Left bd mb rs w w' M' → R (.returned (.int .i64 c)) w') :
    Calls Try.prog 22 #[.pointer (some ⟨bd, 0, none⟩), .string s, .int .i64 0, .bool false, .func (.func 42) #[] #[.pointer (some ⟨cb, 0, none⟩)]] w R :=
  drop_does0 h s cb hcb hno fun w' hL => hR _ w' _ rfl hL
set_option maxRecDepth 100000 in
set_option maxHeartbeats 400000 in
theorem drop_any {R : Ending → World → Prop} (s : ByteArray)
    (hR : ∀ c w' M', (DM.mk (files rs) fuse dead).drop s = (c, M') → Left bd mb rs w w' M' → R (.returned (.int .i64 c)) w') :
    Calls Try.prog 19 #[.pointer (some ⟨bd, 0, none⟩), .string s] w R := by
  have HR := Lib.hid hR
  have hF0 : Fr No w (w.alloc (.cells #[.pointer (some ⟨bd, 0, none⟩)] 23)) := Fr.alloc _ _ _
  have H := Lib.hid (h.fr hF0 fun _ _ x => x)
  have hlt := h.lt
  have hcb : (w.alloc (.cells #[.pointer (some ⟨bd, 0, none⟩)] 23)).heap[w.heap.size]? = some (.cells #[.pointer (some ⟨bd, 0, none⟩)] 23 (0, 0)) := heap_new _ _
  have hno : w.heap.size ∉ own bd mb rs := fun e => by have := hlt _ e; omega
  have HC := Lib.hid (cell_at hcb 0 rfl)
  clear hR h hlt hF0 hcb
  go_enter Try.func19, Try.ntmps19
  go_wp2_with (go_at_call 22; refine drop_does H.out s w.heap.size HC.out hno ?_; intro c' w' M' hM hL; have hM' := Lib.hid hM; have hL' := Lib.hid hL; clear hM hL)
  refine HR.out _ _ _ hM'.out ?_
  obtain ⟨rs', h1, h2, h3, h4⟩ := hL'.out
  exact ⟨rs', h1, h2, (Fr.alloc _ w _).trans h3, fun k hk => (h4 k hk).imp id fun e => by simp at e; omega⟩
end
section
variable {w : World} {bd : Nat} {M : DM} {O : List Nat} (h : DiskAt w bd M O)
include h
theorem disk_drop {R : Ending → World → Prop} (s : ByteArray)
    (hR : ∀ c w' M' O', M.drop s = (c, M') → DiskAt w' bd M' O' → Mv w w' O O' → R (.returned (.int .i64 c)) w') :
    Calls Try.prog 19 #[.pointer (some ⟨bd, 0, none⟩), .string s] w R := by
  obtain ⟨mb, rs, h1, h2, rfl⟩ := h
  refine drop_any h1 s fun c w' M' hm hl => ?_
  obtain ⟨O', h3, h4⟩ := of_left hl
  exact hR c w' M' O' (by rw [← hm, h2]) h3 h4
end
set_option maxRecDepth 100000 in
set_option maxHeartbeats 1000000 in
theorem drop_void {R : Ending → World → Prop} {p : Option Addr} {w : World} (h : Void w p) (s : ByteArray) (hR : ∀ w', Fr No w w' → R (.returned (.int .i64 2)) w') :
    Calls Try.prog 19 #[.pointer p, .string s] w R := by
  have H := Lib.hid (h.fr (Fr.alloc No w (.cells #[.pointer p] 23)))
  have HR := Lib.hid (hR _ (Fr.alloc No w (.cells #[.pointer p] 23)))
  clear h hR
  go_enter Try.func19, Try.ntmps19
  go_wp2_with (go_at_call 22; refine (does_void H.out _ _ _ _).mono ?_; rintro e w' ⟨rfl, rfl⟩)
  exact HR.out
end Go.Proofs.Ythjpjekaiflibaa
