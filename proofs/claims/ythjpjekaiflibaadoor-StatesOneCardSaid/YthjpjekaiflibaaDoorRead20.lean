/- states.read: a promise out of a file. -/
import Derived.Test.YthjpjekaiflibaaDoorGet3
import Derived.Test.YthjpjekaiflibaaDoorOpen
namespace Go.Proofs.YthjpjekaiflibaaDoor
open Go.RowKit
theorem sealD_length (bs : List UInt8) : (sealD bs).length = bs.length + 4 := by
  have h4 : ∀ n, (fourD n).length = 4 := fun _ => rfl
  simp only [sealD, List.length_append, h4]
theorem endsD_seal (bs : List UInt8) : endsD (sealD bs) = true := by
  unfold endsD
  rw [sealD_length]
  have e : bs.length + 4 - 4 = bs.length := by omega
  rw [e]
  unfold sealD
  rw [List.drop_left, List.take_left]
  simp
/-- A frame that was put is got. -/
theorem getD_frame (body r : List UInt8) (h : body.length ≤ 8192) : getD (frameD body ++ r) = (body, (frameD body).length, 0) := by
  have hp := num_pos body.length
  have ht : takeD (frameD body ++ r) = (body.length, (num body.length).length, 0) := by
    unfold frameD sealD
    rw [List.append_assoc, List.append_assoc]
    exact take_num _ (by omega) _
  have hs : sizeD (frameD body ++ r) = (body.length, (num body.length).length, 0) := by
    unfold sizeD
    rw [ht, if_neg (by dsimp only; omega), if_neg (by dsimp only; omega)]
  have hl : (frameD body).length = (num body.length).length + body.length + 4 := by
    unfold frameD
    rw [sealD_length, List.length_append]
  unfold getD
  rw [hs]
  dsimp only
  rw [if_neg (by simp), if_neg (by rw [List.length_append]; omega), ← hl, List.take_left, if_neg (by unfold frameD; rw [endsD_seal]; simp)]
  congr 1
  unfold frameD sealD
  rw [List.append_assoc, List.append_assoc, List.drop_left, List.take_left]
theorem results_cell_tmp_row {P : Program} {fn : Func} {p u : Tmp} {ty : TypeId} (h : fn.results = #[.cell p ty, .tmp u]) (tmps : Array Value) (w : World) (g : Nat) (t : TypeId) (cs : Array Value) (fr : Nat × Nat) (d : TypeDesc)
    (hp : tmps.getD p undef = .pointer (some ⟨g, 0, none⟩)) (hg : w.heap[g]? = some (.cells cs t fr))
    (hu : P.underlying ty = some d) (hd : (match d with | .struct _ | .array _ _ => true | _ => false) = true) (hi : (P.info? ty).map (·.size) = some cs.size) :
    (results fn tmps).run P w = .ok (.tuple #[.agg cs, tmps.getD u undef]) w := by
  rw [results_cell_tmp h, hp]
  simp [asAddr, run_loadVar_row w g t ty cs fr d hg hu hd hi, Result.andThen]
def readD (bs : List UInt8) : Nat × Nat × Bool :=
  if (getD bs).2.2 ≠ 0 ∨ (getD bs).2.1 ≠ bs.length then (0, 0, false)
  else ((takeD (getD bs).1).1, (takeD ((getD bs).1.drop (takeD (getD bs).1).2.1)).1 % 256,
    decide (0 < (takeD (getD bs).1).2.1) && (decide (0 < (takeD ((getD bs).1.drop (takeD (getD bs).1).2.1)).2.1) && (decide ((takeD (getD bs).1).2.1 + (takeD ((getD bs).1.drop (takeD (getD bs).1).2.1)).2.1 = (getD bs).1.length) && decide ((takeD ((getD bs).1.drop (takeD (getD bs).1).2.1)).1 ≤ 255))))
set_option maxRecDepth 100000 in
set_option maxHeartbeats 4000000 in
theorem read20_any {R : Ending → World → Prop} (v : Value) (g : Option Nat) (bs : List UInt8) (w : World) (hT : Tab w) (h : Bs w v g bs)
    (hR : ∀ w', Fr No w w' → R (.returned (.tuple #[.agg #[.int .u64 (readD bs).1, .int .u8 (readD bs).2.1], .bool (readD bs).2.2])) w') :
    Calls Tryd.prog 43 #[v] w R := by
  have HR := Lib.hid hR
  have HT := Lib.hid (hT.fr (Fr.alloc No w (.cells #[.int .u64 0, .int .u8 0] 24)) fun x => x)
  have H := Lib.hid (h.fr (Fr.alloc No w (.cells #[.int .u64 0, .int .u8 0] 24)) fun _ _ x => x)
  obtain ⟨p, c, rfl, _⟩ := Src.form h
  have hm := Src.len_le h
  have hl : bs.length ≤ 9223372036854775807 := by unfold maxLen at hm; omega
  have hgl := getD_len bs
  obtain ⟨body, hbo⟩ : ∃ body, (getD bs).1 = body := ⟨_, rfl⟩
  obtain ⟨al, hal⟩ : ∃ al, (getD bs).2.1 = al := ⟨_, rfl⟩
  obtain ⟨e, he⟩ : ∃ e, (getD bs).2.2 = e := ⟨_, rfl⟩
  rw [hbo, hal] at hgl
  have HBO := Lib.hid hbo
  have HAL := Lib.hid hal
  have HE := Lib.hid he
  have HB0 := Lib.hid (heap_new w (.cells #[.int .u64 0, .int .u8 0] 24))
  clear hR h hm hT hbo hal he
  by_cases hbad : e ≠ 0 ∨ al ≠ bs.length
  · have hrd : readD bs = (0, 0, false) := by
      unfold readD
      rw [HE.out, HAL.out, if_pos hbad]
    rw [hrd] at HR
    clear hrd
    by_cases he0 : e = 0
    · have jal : ¬ (al : Int) = (bs.length : Int) := by omega
      subst he0
      clear hbad
      go_enter Tryd.func43, Tryd.ntmps43
      go_wp2_with (go_at_call 80; refine get_any _ g bs _ HT.out H.out ?_; rw [HBO.out, HAL.out, HE.out]; intro v1 g1 w1 h1 h2 h3; obtain ⟨p1, c1, rfl, hpc⟩ := Sl.form h1; have hb0 := h2.at HB0.out (fun x => x); have z0 := cell_at hb0 0 rfl; have z1 := cell_at hb0 1 rfl; have f0 := free_at hb0 0; have f1 := free_at hb0 1; have K2 := Lib.hid h2; have HB1 := Lib.hid hb0; clear h1 h2 h3 hb0)
      have hb5 := setCell_box (k := 1) (setCell_box (k := 0) HB1.out (.int .u64 0)) (.int .u8 0)
      refine bodyPost_ret (results_cell_tmp_row rfl _ _ w.heap.size 24 _ (0, 0) _ rfl hb5 Tryd.underlying24 rfl (by kernel_rfl)) rfl ?_
      exact HR.out _ (((Fr.alloc No w _).trans K2.out).step ((Fr.set _ _ _ _).trans (Fr.set _ _ _ _)) fun k hk hp => by have : w.heap.size = k := Option.some.inj hp; omega)
    · have je : ¬ (e : Int) = 0 := by omega
      have je2 : ((e : Int) == 0) = false := by simp; omega
      clear hbad
      go_enter Tryd.func43, Tryd.ntmps43
      go_wp2_with (go_at_call 80; refine get_any _ g bs _ HT.out H.out ?_; rw [HBO.out, HAL.out, HE.out]; intro v1 g1 w1 h1 h2 h3; obtain ⟨p1, c1, rfl, hpc⟩ := Sl.form h1; have hb0 := h2.at HB0.out (fun x => x); have z0 := cell_at hb0 0 rfl; have z1 := cell_at hb0 1 rfl; have f0 := free_at hb0 0; have f1 := free_at hb0 1; have K2 := Lib.hid h2; have HB1 := Lib.hid hb0; clear h1 h2 h3 hb0)
      have hb5 := setCell_box (k := 1) (setCell_box (k := 0) HB1.out (.int .u64 0)) (.int .u8 0)
      refine bodyPost_ret (results_cell_tmp_row rfl _ _ w.heap.size 24 _ (0, 0) _ rfl hb5 Tryd.underlying24 rfl (by kernel_rfl)) rfl ?_
      exact HR.out _ (((Fr.alloc No w _).trans K2.out).step ((Fr.set _ _ _ _).trans (Fr.set _ _ _ _)) fun k hk hp => by have : w.heap.size = k := Option.some.inj hp; omega)
  · obtain ⟨rfl, rfl⟩ : e = 0 ∧ al = bs.length := by omega
    have hbl := hgl.1
    obtain ⟨t1, t2, t3⟩ := takeD_small body
    obtain ⟨n, hn⟩ : ∃ n, (takeD body).2.1 = n := ⟨_, rfl⟩
    obtain ⟨tm, htm⟩ : ∃ x, (takeD body).1 = x := ⟨_, rfl⟩
    rw [hn] at t2 t3
    rw [htm] at t1
    obtain ⟨u1, u2, u3⟩ := takeD_small (body.drop n)
    obtain ⟨k, hk⟩ : ∃ k, (takeD (body.drop n)).2.1 = k := ⟨_, rfl⟩
    obtain ⟨vt, hvt⟩ : ∃ x, (takeD (body.drop n)).1 = x := ⟨_, rfl⟩
    rw [hk] at u2 u3
    rw [hvt] at u1
    have hrd : readD bs = (tm, vt % 256, decide (0 < n) && (decide (0 < k) && (decide (n + k = body.length) && decide (vt ≤ 255)))) := by
      unfold readD
      rw [HE.out, HAL.out, HBO.out, if_neg (by simp), hn, htm, hk, hvt]
    rw [hrd] at HR
    have HN := Lib.hid hn
    have HTM := Lib.hid htm
    have HK := Lib.hid hk
    have HVT := Lib.hid hvt
    have hkl : k ≤ body.length - n := by simpa using u3
    clear hgl hbad hrd hn htm hk hvt u3
    go_enter Tryd.func43, Tryd.ntmps43
    go_wp2_with (go_at_call 80; refine get_any _ g bs _ HT.out H.out ?_; rw [HBO.out, HAL.out, HE.out]; intro v1 g1 w1 h1 h2 h3; obtain ⟨p1, c1, rfl, hpc⟩ := Sl.form h1; have hb0 := h2.at HB0.out (fun x => x); have z0 := cell_at hb0 0 rfl; have z1 := cell_at hb0 1 rfl; have f0 := free_at hb0 0; have f1 := free_at hb0 1; have KB := Lib.hid (Sl.out h1); have K1 := Lib.hid h1.src; have K2 := Lib.hid h2; have HB1 := Lib.hid hb0; clear h1 h2 h3 hb0)
    have hfin : ∀ b, (decide (0 < n) && (decide (0 < k) && (decide (n + k = body.length) && decide (vt ≤ 255)))) = b → R (.returned (.tuple #[.agg #[.int .u64 tm, .int .u8 ((vt % 256 : Nat) : Int)], .bool b])) ((w1.setCell ⟨w.heap.size, 0, none⟩ (.int .u64 (tm : Nat))).setCell ⟨w.heap.size, 1, none⟩ (.int .u8 ((vt % 256 : Nat) : Int))) := fun b hb => by
      rw [← hb]
      exact HR.out _ (((Fr.alloc No w _).trans K2.out).step ((Fr.set _ _ _ _).trans (Fr.set _ _ _ _)) fun k hk hp => by have : w.heap.size = k := Option.some.inj hp; omega)
    have HFIN := Lib.hid hfin
    have HB5 := Lib.hid (setCell_box (k := 1) (setCell_box (k := 0) HB1.out (.int .u64 (tm : Nat))) (.int .u8 ((vt % 256 : Nat) : Int)))
    clear hfin
    by_cases hcn : c1 = n
    · have hz : n = body.length := by omega
      have hk0 : k = 0 := by omega
      have HS := Lib.hid (show Bs w1 (.slice p1 0 0) g1 (body.drop n) from by
        have h9 := K1.out.sliced (lo := n) (hi := body.length) (by omega) (by omega)
        have e1 : (body.drop n).take (body.length - n) = body.drop n := List.take_of_length_le (by simp)
        rw [e1] at h9
        have e2 : sliced p1 n body.length c1 1 = .slice p1 0 0 := by
          unfold sliced
          rw [if_pos hcn, show body.length - n = 0 by omega, show c1 - n = 0 by omega]
        rwa [e2] at h9)
      have HF0 := Lib.hid (HFIN.out false (by rw [decide_eq_false (show ¬ 0 < k by omega)]; simp))
      subst hk0
      by_cases hn0 : 0 < n
      · have jn : (0 : Int) < (n : Int) := by omega
        go_wp2_with (first
          | (go_at_call 81; refine Take_any _ g1 (body.drop n) _ HS.out ?_; rw [HVT.out, HK.out])
          | (go_at_call 81; refine Take_any _ g1 body _ K1.out ?_; rw [HTM.out, HN.out]))
        refine bodyPost_ret (results_cell_tmp_row rfl _ _ w.heap.size 24 _ (0, 0) _ rfl HB5.out Tryd.underlying24 rfl (by kernel_rfl)) rfl ?_
        exact HF0.out
      · obtain rfl : n = 0 := by omega
        obtain rfl : vt = tm := by have := HVT.out; rw [List.drop_zero, HTM.out] at this; exact this.symm
        subst hcn
        obtain rfl : body = [] := List.eq_nil_of_length_eq_zero (by omega)
        have K4 := Lib.hid (show Bs w1 (.slice p1 0 0) g1 [] from K1.out)
        clear hz hn0 HVT HK HS hpc t3 hbl hkl
        go_wp2_with (go_at_call 81; refine Take_any _ g1 [] _ K4.out ?_; rw [HTM.out, HN.out])
        refine bodyPost_ret (results_cell_tmp_row rfl _ _ w.heap.size 24 _ (0, 0) _ rfl HB5.out Tryd.underlying24 rfl (by kernel_rfl)) rfl ?_
        exact HF0.out
    · obtain ⟨b, o, rfl⟩ : ∃ b o, p1 = some ⟨b, o, none⟩ := by
        rcases KB.out with ⟨e, _⟩ | ⟨b, o, cap, e, _⟩
        · obtain ⟨_, h5, h6⟩ : p1 = none ∧ body.length = 0 ∧ c1 = 0 := by simpa using e
          omega
        · exact ⟨b, o, by injection e⟩
      have HS := Lib.hid (show Bs w1 (.slice (some ⟨b, o + n, none⟩) (body.length - n) (c1 - n)) g1 (body.drop n) from by
        have h9 := K1.out.part n (body.length - n) (c' := c1 - n) (by omega) (by omega) (by omega)
        have e1 : (body.drop n).take (body.length - n) = body.drop n := List.take_of_length_le (by simp)
        rwa [e1] at h9)
      by_cases hn0 : 0 < n
      · have jn : (0 : Int) < (n : Int) := by omega
        by_cases hk0 : 0 < k
        · have jk : (0 : Int) < (k : Int) := by omega
          by_cases hnk : n + k = body.length
          · have jnk : (n : Int) + (k : Int) = (body.length : Int) := by omega
            by_cases hv : vt ≤ 255
            · have jv : (vt : Int) ≤ 255 := by omega
              have HF0 := Lib.hid (HFIN.out true (by simp [hn0, hk0, hnk, hv]))
              rw [show vt % 256 = vt by omega] at HF0 HB5
              clear hnk
              go_wp2_with (first
                | (go_at_call 81; refine Take_any _ g1 body _ K1.out ?_; rw [HTM.out, HN.out])
                | (go_at_call 81; refine Take_any _ g1 (body.drop n) _ HS.out ?_; rw [HVT.out, HK.out]))
              refine bodyPost_ret (results_cell_tmp_row rfl _ _ w.heap.size 24 _ (0, 0) _ rfl HB5.out Tryd.underlying24 rfl (by kernel_rfl)) rfl ?_
              exact HF0.out
            · have jv : (255 : Int) < (vt : Int) := by omega
              have HF0 := Lib.hid (HFIN.out false (by simp [hv]))
              have jv2 : decide ((vt : Int) ≤ 255) = false := by simp; omega
              clear hnk
              go_wp2_with (first
                | (go_at_call 81; refine Take_any _ g1 body _ K1.out ?_; rw [HTM.out, HN.out])
                | (go_at_call 81; refine Take_any _ g1 (body.drop n) _ HS.out ?_; rw [HVT.out, HK.out]))
              refine bodyPost_ret (results_cell_tmp_row rfl _ _ w.heap.size 24 _ (0, 0) _ rfl HB5.out Tryd.underlying24 rfl (by kernel_rfl)) rfl ?_
              exact HF0.out
          · have jnk : ¬ (n : Int) + (k : Int) = (body.length : Int) := by omega
            have HF0 := Lib.hid (HFIN.out false (by simp [hnk]))
            go_wp2_with (first
              | (go_at_call 81; refine Take_any _ g1 body _ K1.out ?_; rw [HTM.out, HN.out])
              | (go_at_call 81; refine Take_any _ g1 (body.drop n) _ HS.out ?_; rw [HVT.out, HK.out]))
            refine bodyPost_ret (results_cell_tmp_row rfl _ _ w.heap.size 24 _ (0, 0) _ rfl HB5.out Tryd.underlying24 rfl (by kernel_rfl)) rfl ?_
            exact HF0.out
        · obtain rfl : k = 0 := by omega
          have HF0 := Lib.hid (HFIN.out false (by simp))
          go_wp2_with (first
            | (go_at_call 81; refine Take_any _ g1 body _ K1.out ?_; rw [HTM.out, HN.out])
            | (go_at_call 81; refine Take_any _ g1 (body.drop n) _ HS.out ?_; rw [HVT.out, HK.out]))
          refine bodyPost_ret (results_cell_tmp_row rfl _ _ w.heap.size 24 _ (0, 0) _ rfl HB5.out Tryd.underlying24 rfl (by kernel_rfl)) rfl ?_
          exact HF0.out
      · obtain rfl : n = 0 := by omega
        have HF0 := Lib.hid (HFIN.out false (by simp))
        obtain rfl : vt = tm := by have := HVT.out; rw [List.drop_zero, HTM.out] at this; exact this.symm
        obtain rfl : k = 0 := by have := HK.out; rw [List.drop_zero, HN.out] at this; exact this.symm
        clear HVT HK HS
        go_wp2_with (go_at_call 81; refine Take_any _ g1 body _ K1.out ?_; rw [HTM.out, HN.out])
        refine bodyPost_ret (results_cell_tmp_row rfl _ _ w.heap.size 24 _ (0, 0) _ rfl HB5.out Tryd.underlying24 rfl (by kernel_rfl)) rfl ?_
        exact HF0.out
end Go.Proofs.YthjpjekaiflibaaDoor
