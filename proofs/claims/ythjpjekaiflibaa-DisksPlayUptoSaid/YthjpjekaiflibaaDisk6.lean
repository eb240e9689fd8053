/- Add, Sure, Put, Drop: each answers what the model says, and leaves the disk as the model has it. -/
import Derived.Test.YthjpjekaiflibaaDisk5
import Derived.Test.YthjpjekaiflibaaModel
namespace Go.Proofs.Ythjpjekaiflibaa
open Go.RowKit

def files (rs : List Rep) : List File := rs.map (·.f)
theorem find_files (rs : List Rep) (s : ByteArray) (fuse : Int) (dead : Bool) : (DM.mk (files rs) fuse dead).find s = (repOf rs s).map (·.f) := by
  simp only [DM.find, files, repOf, List.find?_map, Function.comp_def]
theorem files_turned (rs : List Rep) (s : ByteArray) (r' : Rep) : files (turned rs s r') = fput (files rs) s r'.f := by
  simp only [files, turned, fput, List.map_map]
  apply List.map_congr_left
  intro q _
  simp only [Function.comp_def]
  split <;> rfl
/-- What a call on a disk owes: the disk as the model has it; nothing else was written. -/
def Left (bd mb : Nat) (rs : List Rep) (w w' : World) (M : DM) : Prop :=
  ∃ rs', DiskRep w' bd mb M.fuse M.dead rs' ∧ files rs' = M.files ∧ Fr (· ∈ own bd mb rs) w w' ∧ ∀ k, k ∈ own bd mb rs' → k ∈ own bd mb rs ∨ w.heap.size ≤ k

theorem asked_ok {dead : Bool} {s : ByteArray} (h : askedE dead s = 0) : dead = false ∧ 0 < s.size ∧ s.size ≤ 16 := by
  unfold askedE at h
  split at h
  · cases h
  · rename_i hd
    split at h
    · cases h
    · rename_i hs
      rw [not_or] at hs
      refine ⟨by simpa using hd, ?_, by omega⟩
      rcases Nat.eq_zero_or_pos s.size with h0 | h0
      · exfalso; apply hs.1
        have : s = ByteArray.empty := by simpa using h0
        rw [this]; decide +kernel
      · exact h0

section
variable {bd mb : Nat} {fuse : Int} {dead : Bool} {rs : List Rep} {w : World} (h : DiskRep w bd mb fuse dead rs)
include h
omit h in
theorem own_burnt : ∀ i, Is (some bd) i → i ∈ own bd mb rs := fun i e => by cases e; simp [own]
theorem does_main0 {R : Ending → World → Prop} (s : ByteArray) (size : Int) (made : Bool) (how : File → File) (g : Nat) (cap : Array Value)
    (eg : ∀ args w, (callFunc g args).run Try.prog w = .ok (.enter g args) w) (hnm : ∀ f, (how f).name = f.name)
    (hhow : size ≤ 1048576 → ∀ (r : Rep) (w1 : World) (R' : Ending → World → Prop), (repOf rs s = some r ∨ (repOf rs s = none ∧ r = newRep s w.heap.size)) → FileAt w1 r → r.g ≠ some r.fb → Fr (· ∈ own bd mb rs) w w1 →
      (∀ w' r', FileAt w' r' → r'.f = how r.f → r'.fb = r.fb → Fr (fun k => k = r.fb ∨ r.g = some k) w1 w' → (r'.g = r.g ∨ New w1 r'.g) → R' (.returned (.tuple #[])) w') → Calls Try.prog g (#[.pointer (some ⟨r.fb, 0, none⟩)] ++ cap) w1 R')
    (hR : ∀ w', Left bd mb rs w w' ((DM.mk (files rs) fuse dead).does s size made how).2 → R (.returned (.int .i64 ((DM.mk (files rs) fuse dead).does s size made how).1)) w') :
    Calls Try.prog 22 #[.pointer (some ⟨bd, 0, none⟩), .string s, .int .i64 size, .bool made, .func (.func g) #[] cap] w R := by
  have key : ∀ R' : Int → World → Prop, (∀ c w', R' c w' → R (.returned (.int .i64 c)) w') →
      Calls Try.prog 22 #[.pointer (some ⟨bd, 0, none⟩), .string s, .int .i64 size, .bool made, .func (.func g) #[] cap] w (Answers R') →
      Calls Try.prog 22 #[.pointer (some ⟨bd, 0, none⟩), .string s, .int .i64 size, .bool made, .func (.func g) #[] cap] w R :=
    fun R' h1 h2 => h2.mono fun e w' ⟨c, he, hc⟩ => by rw [he]; exact h1 c w' hc
  have same : ∀ M : DM, M = ⟨files rs, fuse, dead⟩ → Left bd mb rs w w M := fun M e => by
    subst e; exact ⟨rs, h, rfl, Fr.refl _ _, fun k hk => .inl hk⟩
  have died : Left bd mb rs w (w.setCell ⟨bd, 2, none⟩ (.bool true)) ⟨files rs, fuse, true⟩ :=
    ⟨rs, h.setDead true, rfl, (Fr.set w bd 2 _).mono fun i _ hi => own_burnt i hi, fun k hk => .inl hk⟩
  refine key (fun c w' => R (.returned (.int .i64 c)) w') (fun _ _ h => h) ?_
  by_cases ha : askedE dead s = 0
  · have hok := asked_ok ha
    have hfind := find_files rs s fuse dead
    cases hr : repOf rs s with
    | none =>
      rw [hr] at hfind
      simp only [Option.map_none] at hfind
      by_cases hmade : made = false
      · subst hmade
        refine does_none bd mb fuse dead rs s size g cap w h _ ha hr ?_
        have := hR w (by simp only [DM.does, ha, if_true, hfind]; exact same _ rfl)
        simpa [DM.does, ha, hfind] using this
      · have hmade' : made = true := by simpa using hmade
        subst hmade'
        by_cases hlim : 1048576 < size ∨ 16 ≤ rs.length
        · refine does_limit_new bd mb fuse dead rs s size g cap w h _ ha hr hlim ?_
          have hlim' : 1048576 < size ∨ 16 ≤ (files rs).length := by simpa [files] using hlim
          have := hR w (by simp only [DM.does, ha, if_true, hfind, if_pos hlim', Bool.true_eq_false, if_false]; exact same _ rfl)
          simpa only [DM.does, ha, if_true, hfind, if_pos hlim', Bool.true_eq_false, if_false] using this
        · rw [not_or] at hlim
          have hlim' : ¬ (1048576 < size ∨ 16 ≤ (files rs).length) := by simp [files]; omega
          by_cases hf : fuse = 0
          · refine does_out_new bd mb fuse dead rs s size g cap w h _ ha hr (by omega) (by omega) hf hok.1 ?_
            have := hR (w.setCell ⟨bd, 2, none⟩ (.bool true)) (by simp only [DM.does, ha, if_true, hfind, if_neg hlim', Bool.true_eq_false, if_false, if_pos hf]; exact died)
            simpa only [DM.does, ha, if_true, hfind, if_neg hlim', Bool.true_eq_false, if_false, if_pos hf] using this
          · refine does_new bd mb fuse dead rs s size g cap w h _ ha hok.2 hr (by omega) (by omega) hf eg fun w1 hD hF hsz => ?_
            have hmem : newRep s w.heap.size ∈ rs ++ [newRep s w.heap.size] := by simp
            have hrep : repOf (rs ++ [newRep s w.heap.size]) s = some (newRep s w.heap.size) := by
              simp only [repOf] at hr
              simp [repOf, List.find?_append, hr, newRep]
            refine hhow (by omega) (newRep s w.heap.size) w1 _ (.inr ⟨hr, rfl⟩) (hD.files _ hmem) (by simp [newRep]) hF fun w' r' h1 h2 h3 h4 h5 => ⟨rfl, ?_⟩
            have hU := hD.update hrep h1 (by rw [h2]; exact hnm _) h3 h4 h5
            have hT : turned (rs ++ [newRep s w.heap.size]) s r' = rs ++ [r'] := turned_split (B := []) rfl (fun q hq e => by
              simp only [repOf, List.find?_eq_none] at hr
              exact hr q hq (by simpa using e)) (by simp)
            rw [hT] at hU
            have hL : Left bd mb rs w w' ⟨files rs ++ [how { name := s, bytes := [], sure := 0 }], burnt fuse, dead⟩ := by
              refine ⟨rs ++ [r'], hU, by simp [files, h2, newRep], hF.step h4 fun i hi hk => ?_, fun k hk => ?_⟩
              · rcases hk with rfl | hk
                · exact absurd hi (by simp [newRep])
                · cases hk
              · have hk' : k ∈ own bd mb rs ∨ k ∈ r'.blocks := by
                  simp only [own, List.flatMap_append, List.flatMap_cons, List.flatMap_nil, List.append_nil, List.mem_cons, List.mem_append] at hk ⊢
                  rcases hk with h | h | h | h
                  · exact .inl (.inl h)
                  · exact .inl (.inr (.inl h))
                  · exact .inl (.inr (.inr h))
                  · exact .inr h
                rcases hk' with hk | hk
                · exact .inl hk
                · right
                  simp only [Rep.blocks, List.mem_cons, Option.mem_toList] at hk
                  rcases hk with hk | hk
                  · rw [hk, h3]; exact Nat.le_refl _
                  · rcases h5 with h5 | h5
                    · rw [h5] at hk; cases hk
                    · have := h5 k hk; omega
            have := hR w' (by simp only [DM.does, ha, if_true, hfind, if_neg hlim', Bool.true_eq_false, if_false, if_neg hf]; exact hL)
            simpa only [DM.does, ha, if_true, hfind, if_neg hlim', Bool.true_eq_false, if_false, if_neg hf] using this
    | some r =>
      rw [hr] at hfind
      simp only [Option.map_some] at hfind
      have hm := repOf_mem hr
      by_cases hlim : 1048576 < size
      · refine does_limit_old bd mb fuse dead rs s size made g cap w h _ ha hr hlim ?_
        have := hR w (by simp only [DM.does, ha, if_true, hfind, if_pos hlim]; exact same _ rfl)
        simpa only [DM.does, ha, if_true, hfind, if_pos hlim] using this
      · by_cases hf : fuse = 0
        · refine does_out_old bd mb fuse dead rs s size made g cap w h _ ha hr (by omega) hf hok.1 ?_
          have := hR (w.setCell ⟨bd, 2, none⟩ (.bool true)) (by simp only [DM.does, ha, if_true, hfind, if_neg hlim, if_pos hf]; exact died)
          simpa only [DM.does, ha, if_true, hfind, if_neg hlim, if_pos hf] using this
        · refine does_old bd mb fuse dead rs s size made g cap w h _ ha hr (by omega) hf eg fun hD => ?_
          have hFb : Fr (· ∈ own bd mb rs) w (burntW w bd fuse) := (burntW_fr w bd fuse).mono fun i _ hi => own_burnt i hi
          have hrb : r.fb ∈ own bd mb rs := by simp only [own, List.mem_cons, List.mem_flatMap]; exact .inr (.inr ⟨r, hm.1, by simp [Rep.blocks]⟩)
          have hrg : ∀ k, r.g = some k → k ∈ own bd mb rs := fun k hk => by simp only [own, List.mem_cons, List.mem_flatMap]; exact .inr (.inr ⟨r, hm.1, by simp [Rep.blocks, hk]⟩)
          have hne : r.g ≠ some r.fb := by
            intro e
            have hn := h.nodup
            simp only [own, List.nodup_cons] at hn
            have := List.pairwise_flatMap.1 hn.2.2
            have := this.1 r hm.1
            simp [Rep.blocks, e] at this
          refine hhow (by omega) r _ _ (.inl hr) (hD.files _ hm.1) hne hFb fun w' r' h1 h2 h3 h4 h5 => ⟨rfl, ?_⟩
          have hU := hD.update hr h1 (by rw [h2]; exact hnm _) h3 h4 h5
          have hL : Left bd mb rs w w' ⟨fput (files rs) s (how r.f), burnt fuse, dead⟩ := by
            refine ⟨turned rs s r', hU, by rw [files_turned, h2], hFb.trans (h4.mono fun i _ hi => ?_), fun k hk => ?_⟩
            · rcases hi with rfl | hi
              · exact hrb
              · exact hrg i hi
            · have := own_turned (w := burntW w bd fuse) hr h3 h5 k hk
              rw [burntW_size] at this
              exact this
          have := hR w' (by simp only [DM.does, ha, if_true, hfind, if_neg hlim, if_neg hf]; exact hL)
          simpa only [DM.does, ha, if_true, hfind, if_neg hlim, if_neg hf] using this
  · refine does_asked bd mb fuse dead rs s size made g cap w h _ ha ?_
    have := hR w (by simp only [DM.does, ha, if_false]; exact same _ rfl)
    simpa only [DM.does, ha, if_false] using this
theorem does_main {R : Ending → World → Prop} (s : ByteArray) (size : Int) (made : Bool) (how : File → File) (g : Nat) (cap : Array Value)
    (eg : ∀ args w, (callFunc g args).run Try.prog w = .ok (.enter g args) w) (hnm : ∀ f, (how f).name = f.name)
    (hhow : size ≤ 1048576 → ∀ (r : Rep) (w1 : World) (R' : Ending → World → Prop), (repOf rs s = some r ∨ (repOf rs s = none ∧ r = newRep s w.heap.size)) → FileAt w1 r → r.g ≠ some r.fb → Fr (· ∈ own bd mb rs) w w1 →
      (∀ w' r', FileAt w' r' → r'.f = how r.f → r'.fb = r.fb → Fr (fun k => k = r.fb ∨ r.g = some k) w1 w' → (r'.g = r.g ∨ New w1 r'.g) → R' (.returned (.tuple #[])) w') → Calls Try.prog g (#[.pointer (some ⟨r.fb, 0, none⟩)] ++ cap) w1 R')
    (hR : ∀ c w' M', (DM.mk (files rs) fuse dead).does s size made how = (c, M') → Left bd mb rs w w' M' → R (.returned (.int .i64 c)) w') :
    Calls Try.prog 22 #[.pointer (some ⟨bd, 0, none⟩), .string s, .int .i64 size, .bool made, .func (.func g) #[] cap] w R :=
  does_main0 h s size made how g cap eg hnm hhow fun w' hL => hR _ w' _ rfl hL
end

theorem eg_sure1 : ∀ args w, (callFunc 40 args).run Try.prog w = .ok (.enter 40 args) w := by
  intro args w
  kernel_rfl
theorem eg_put1 : ∀ args w, (callFunc 41 args).run Try.prog w = .ok (.enter 41 args) w := by
  intro args w
  kernel_rfl
section
variable {bd mb : Nat} {fuse : Int} {dead : Bool} {rs : List Rep} {w : World} (h : DiskRep w bd mb fuse dead rs)
include h
set_option maxRecDepth 100000 in
set_option maxHeartbeats 400000 in
theorem sure_any {R : Ending → World → Prop} (s : ByteArray)
    (hR : ∀ c w' M', (DM.mk (files rs) fuse dead).sure s = (c, M') → Left bd mb rs w w' M' → R (.returned (.int .i64 c)) w') :
    Calls Try.prog 17 #[.pointer (some ⟨bd, 0, none⟩), .string s] w R := by
  have HR := Lib.hid hR
  have H := Lib.hid h
  clear hR h
  go_enter Try.func17, Try.ntmps17
  go_wp2_with (go_at_call 22; refine does_main H.out s 0 false (fun f => { f with sure := f.bytes.length }) 40 #[] eg_sure1 (fun _ => rfl) (fun _ r w1 R' _ hf hne _ hk => sure1_any r w1 hf hne fun w' h1 h2 => hk w' { r with f := { r.f with sure := r.f.bytes.length } } h1 rfl rfl (h2.mono fun i _ hi => .inl (by cases hi; rfl)) (.inl rfl)) ?_; intro c' w' M' hM hL; have hM' := Lib.hid hM; have hL' := Lib.hid hL; clear hM hL)
  exact HR.out _ _ _ hM'.out hL'.out
set_option maxRecDepth 100000 in
set_option maxHeartbeats 4000000 in
theorem add_any {R : Ending → World → Prop} (s : ByteArray) (v : Value) (gv : Option Nat) (bs : List UInt8) (hb : Bs w v gv bs) (hgv : ∀ k, gv = some k → k ∉ own bd mb rs) (hmax : bs.length ≤ 140737488355328)
    (hR : ∀ c w' M', (DM.mk (files rs) fuse dead).add s bs = (c, M') → Left bd mb rs w w' M' → R (.returned (.int .i64 c)) w') :
    Calls Try.prog 9 #[.pointer (some ⟨bd, 0, none⟩), .string s, v] w R := by
  have hF0 : Fr No w (w.alloc (.cells #[v] 28)).drew := (Fr.alloc _ _ _).trans (Fr.drew _ _)
  have H := Lib.hid (h.fr hF0 fun _ _ x => x)
  have hB := Lib.hid (hb.fr hF0 fun _ _ x => x)
  have hlt := h.lt
  have hcb : (w.alloc (.cells #[v] 28)).drew.heap[w.heap.size]? = some (.cells #[v] 28 (0, 0)) := heap_new _ _
  have hno : w.heap.size ∉ own bd mb rs := fun e => by have := hlt _ e; omega
  have HW := Lib.hid (fun (w1 : World) (hF : Fr (· ∈ own bd mb rs) (w.alloc (.cells #[v] 28)).drew w1) => (⟨cell_at (hF.at hcb hno) 0 rfl, hB.out.fr hF hgv⟩ : w1.cell? ⟨w.heap.size, 0, none⟩ = some v ∧ Bs w1 v gv bs))
  have hsz := find_files rs s fuse dead
  have HZ := Lib.hid (show ((repOf rs s).map fun r => (r.f.bytes.length : Int)).getD 0 = (DM.mk (files rs) fuse dead).size s by
    simp only [DM.size, hsz, Option.map_map, Function.comp_def])
  obtain ⟨z, hz⟩ : ∃ z, (DM.mk (files rs) fuse dead).size s = z := ⟨_, rfl⟩
  have hz0 : 0 ≤ z := by
    rw [← hz]; simp only [DM.size]
    cases (DM.mk (files rs) fuse dead).find s <;> simp
  have hz1 : z ≤ 1048576 := by
    rw [← hz]; simp only [DM.size, hsz]
    cases hr : repOf rs s with
    | none => simp
    | some r => have := (h.files r (repOf_mem hr).1).most; simp; omega
  have hZ := Lib.hid hz
  obtain ⟨p, c, rfl, _⟩ := Src.form hb
  have hm2 : (bs.length : Int) ≤ 140737488355328 := by omega
  have hwr : IntKind.i64.wrap (z + (bs.length : Int)) = z + (bs.length : Int) := IntWalk.i64_in _ (by omega)
  have hadd : (DM.mk (files rs) fuse dead).add s bs = (DM.mk (files rs) fuse dead).does s (z + bs.length) true (fun f => { f with bytes := f.bytes ++ bs }) := by rw [← hz]; rfl
  rw [hadd] at hR
  have HR := Lib.hid hR
  have HD := Lib.hid (fun (R' : Ending → World → Prop) hk => does_main H.out (R := R') s (z + bs.length) true (fun f => { f with bytes := f.bytes ++ bs }) 24 #[.pointer (some ⟨w.heap.size, 0, none⟩)] eg_add1 (fun _ => rfl) (fun hs r w1 R' hr hf hne hF hk => add1_any r w.heap.size _ gv bs w1 hf hne (HW.out w1 hF).1 (HW.out w1 hF).2 (by
        have h1 := HZ.out
        have h2 := hZ.out
        rw [← h1] at h2
        rcases hr with hr | ⟨hr, rfl⟩
        · rw [hr] at h2; simp at h2; omega
        · rw [hr] at h2; simp [newRep] at h2 ⊢; omega) fun w' v' g' h1 h2 h3 => hk w' _ h1 rfl rfl h2 h3) hk)
  clear hR h hb hgv hlt hno hF0 hcb hsz hz hmax hadd HW hB
  go_enter Try.func9, Try.ntmps9
  go_wp2_with fail
  go_region_with (first
    | (go_at_call 23; refine (size_any s _ H.out).mono ?_; rintro e w' ⟨rfl, rfl⟩; rw [HZ.out, hZ.out])
    | (go_at_call 22; refine HD.out _ ?_; intro c' w' M' hM hL; have hM' := Lib.hid hM; have hL' := Lib.hid hL; clear hM hL))
  all_goals
    go_wp2
    go_ret
    refine HR.out _ _ _ hM'.out ?_
    obtain ⟨rs', h1, h2, h3, h4⟩ := hL'.out
    exact ⟨rs', h1, h2, ((Fr.alloc _ w _).trans (Fr.drew _ _)).trans h3, fun k hk => (h4 k hk).imp id fun e => by simp at e; omega⟩
set_option maxRecDepth 100000 in
set_option maxHeartbeats 400000 in
/-- What is handed in does not lie in the disk's own memory. -/
theorem put_any {R : Ending → World → Prop} (s : ByteArray) (v : Value) (gv : Option Nat) (bs : List UInt8) (hb : Bs w v gv bs) (hgv : ∀ k, gv = some k → k ∉ own bd mb rs)
    (hR : ∀ c w' M', (DM.mk (files rs) fuse dead).put s bs = (c, M') → Left bd mb rs w w' M' → R (.returned (.int .i64 c)) w') :
    Calls Try.prog 18 #[.pointer (some ⟨bd, 0, none⟩), .string s, v] w R := by
  have HR := Lib.hid hR
  have hF0 : Fr No w (w.alloc (.cells #[v] 28)) := Fr.alloc _ _ _
  have H := Lib.hid (h.fr hF0 fun _ _ x => x)
  have hB := Lib.hid (hb.fr hF0 fun _ _ x => x)
  have hlt := h.lt
  have hcb : (w.alloc (.cells #[v] 28)).heap[w.heap.size]? = some (.cells #[v] 28 (0, 0)) := heap_new _ _
  have hno : w.heap.size ∉ own bd mb rs := fun e => by have := hlt _ e; omega
  have HW := Lib.hid (fun (w1 : World) (hF : Fr (· ∈ own bd mb rs) (w.alloc (.cells #[v] 28)) w1) => (⟨cell_at (hF.at hcb hno) 0 rfl, hB.out.fr hF hgv⟩ : w1.cell? ⟨w.heap.size, 0, none⟩ = some v ∧ Bs w1 v gv bs))
  obtain ⟨p, c, rfl, _⟩ := Src.form hb
  clear hR h hb hgv hlt hno hF0 hcb
  go_enter Try.func18, Try.ntmps18
  go_wp2_with (go_at_call 22; refine does_main H.out s bs.length true (fun f => { f with bytes := bs, sure := bs.length }) 41 #[.pointer (some ⟨w.heap.size, 0, none⟩)] eg_put1 (fun _ => rfl) (fun hs r w1 R' _ hf hne hF hk => put1_any r w.heap.size _ gv bs w1 hf (HW.out w1 hF).1 (HW.out w1 hF).2 (by omega) fun w' v' g' h1 h2 h3 => hk w' _ h1 rfl rfl (h2.mono fun i _ hi => .inl (by cases hi; rfl)) (.inr h3)) ?_; intro c' w' M' hM hL; have hM' := Lib.hid hM; have hL' := Lib.hid hL; clear hM hL)
  refine HR.out _ _ _ hM'.out ?_
  obtain ⟨rs', h1, h2, h3, h4⟩ := hL'.out
  exact ⟨rs', h1, h2, (Fr.alloc _ w _).trans h3, fun k hk => (h4 k hk).imp id fun e => by simp at e; omega⟩
end
end Go.Proofs.Ythjpjekaiflibaa
