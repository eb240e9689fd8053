/- Are bytes the same? -/
import Derived.Test.YthjpjekaiflibaaTwinB
import Derived.Test.YthjpjekaiflibaaBs
namespace Go.Proofs.Ythjpjekaiflibaa
open Go.RowKit
def SameRel (w : World) (xs ys : List UInt8) (i : Value) (w' : World) : Prop := ∃ k : Nat, i = .int .i64 k ∧ k ≤ xs.length ∧ xs.take k = ys.take k ∧ ∃ m, w' = w.drewN m
set_option maxRecDepth 100000 in
set_option maxHeartbeats 4000000 in
theorem same_dr {R : Ending → World → Prop} (v1 v2 : Value) (g1 g2 : Option Nat) (xs ys : List UInt8) (w : World) (h1 : Bs w v1 g1 xs) (h2 : Bs w v2 g2 ys)
    (hR : ∀ m, R (.returned (.bool (decide (xs = ys)))) (w.drewN m)) :
    Calls Try.prog 52 #[v1, v2] w R := by
  have HR := Lib.hid hR
  have H1 := Lib.hid h1
  have H2 := Lib.hid h2
  obtain ⟨p1, c1, rfl, _⟩ := Src.form h1
  obtain ⟨p2, c2, rfl, _⟩ := Src.form h2
  have hm1 := Src.len_le h1
  have hl1 : xs.length ≤ 9223372036854775807 := by unfold maxLen at hm1; omega
  clear hR h1 h2 hm1
  by_cases hlen : xs.length = ys.length
  · have jl : (xs.length : Int) = (ys.length : Int) := by omega
    have HL := Lib.hid hlen
    rw [← hlen]
    clear jl hlen
    go_enter Try.func52, Try.ntmps52
    go_wp2_with fail
    go_loopw [5] (fun i wr => SameRel w xs ys i wr) (fun i _ => xs.length - (intOf i).toNat)
    case atStart => exact ⟨0, rfl, by omega, rfl, 0, rfl⟩
    case round =>
      obtain ⟨k, rfl, hk, heq, md, hmd⟩ := hrel
      have hF : Fr No w wr := by rw [hmd]; exact Fr.drewN No w md
      have HMD := Lib.hid hmd
      clear hmd
      by_cases hlt : k < xs.length
      · obtain ⟨b1, o1, rfl, e1⟩ := (H1.out.fr hF fun _ _ x => x).at hlt
        have hlt2 : k < ys.length := by have := HL.out; omega
        obtain ⟨b2, o2, rfl, e2⟩ := (H2.out.fr hF fun _ _ x => x).at hlt2
        have t1 := List.take_succ_eq_append_getElem hlt
        have t2 := List.take_succ_eq_append_getElem hlt2
        have d1 : xs[k]? = some xs[k] := List.getElem?_eq_getElem hlt
        have d2 : ys[k]? = some ys[k] := List.getElem?_eq_getElem hlt2
        generalize xs[k] = x at *
        generalize ys[k] = y at *
        have ik0 : (0 : Int) ≤ (k : Int) := by omega
        have il : (k : Int) < (xs.length : Int) := by omega
        by_cases hxy : x = y
        · subst hxy
          have HT := Lib.hid (show xs.take (k + 1) = ys.take (k + 1) by rw [t1, t2, heq])
          clear t1 t2 d1 d2 heq hF hlt2
          go_wp2_with fail
          go_quiet (fail)
          go_wp2_with fail
          exact ⟨⟨k + 1, by go_num, by omega, HT.out, md + nq, by rw [HMD.out]; simp⟩, by simp [intOf]; omega⟩
        · have hne : decide (xs = ys) = false := by
            rw [decide_eq_false_iff_not]
            intro e
            rw [e, d2] at d1
            exact hxy (Option.some.inj d1).symm
          have jx : ¬ (x.toNat : Int) = (y.toNat : Int) := fun e => hxy (UInt8.toNat_inj.1 (by omega))
          have HNE := Lib.hid hne
          clear t1 t2 d1 d2 heq hF hne hlt2
          go_wp2_with fail
          go_quiet (fail)
          go_wp2_with fail
          have := HR.out (md + nq)
          rw [← World.drewN_drewN, ← HMD.out] at this
          rw [HNE.out] at this
          exact this
      · have hkl : k = xs.length := by omega
        subst hkl
        have hxy : decide (xs = ys) = true := by
          rw [decide_eq_true_eq]
          rw [List.take_length] at heq
          rw [heq, HL.out, List.take_length]
        have h3 := HR.out md
        rw [← HMD.out] at h3
        rw [hxy] at h3
        have HR3 := Lib.hid h3
        clear h3 hxy heq hF
        go_wp2_with fail
        exact HR3.out
  · have jl : ¬ (xs.length : Int) = (ys.length : Int) := by omega
    have hne : decide (xs = ys) = false := by
      rw [decide_eq_false_iff_not]
      intro e
      exact hlen (by rw [e])
    have h3 : R (.returned (.bool (decide (xs = ys)))) w := HR.out 0
    rw [hne] at h3
    have HR3 := Lib.hid h3
    clear h3 hne hlen
    go_enter Try.func52, Try.ntmps52
    go_wp2_with fail
    exact HR3.out
theorem same_any {R : Ending → World → Prop} (v1 v2 : Value) (g1 g2 : Option Nat) (xs ys : List UInt8) (w : World) (h1 : Bs w v1 g1 xs) (h2 : Bs w v2 g2 ys)
    (hR : ∀ w', Fr No w w' → R (.returned (.bool (decide (xs = ys)))) w') :
    Calls Try.prog 52 #[v1, v2] w R := same_dr v1 v2 g1 g2 xs ys w h1 h2 fun m => hR _ (Fr.drewN No w m)
set_option maxRecDepth 100000 in
set_option maxHeartbeats 4000000 in
theorem sameB_quiet (v1 v2 : Value) (g1 g2 : Option Nat) (xs ys : List UInt8) (w : World) (h1 : Bs w v1 g1 xs) (h2 : Bs w v2 g2 ys) (n : Nat) :
    Calls Try.prog 37 #[v1, v2] (w.drewN n) fun e w' => e = .returned (.bool (decide (xs = ys))) ∧ ∃ m, w' = w.drewN m := by
  have H1 := Lib.hid (h1.fr (Fr.drewN No w n) fun _ _ x => x)
  have H2 := Lib.hid (h2.fr (Fr.drewN No w n) fun _ _ x => x)
  clear h1 h2
  go_enter Try.func37, Try.ntmps37
  go_wp2_with (go_at_call 52; refine same_dr _ _ g1 g2 xs ys _ H1.out H2.out ?_; intro m)
  go_ret
  exact ⟨rfl, n + m, by simp⟩
set_option maxRecDepth 100000 in
set_option maxHeartbeats 4000000 in
theorem sameB_any {R : Ending → World → Prop} (v1 v2 : Value) (g1 g2 : Option Nat) (xs ys : List UInt8) (w : World) (h1 : Bs w v1 g1 xs) (h2 : Bs w v2 g2 ys)
    (hR : ∀ w', Fr No w w' → R (.returned (.bool (decide (xs = ys)))) w') :
    Calls Try.prog 37 #[v1, v2] w R := by
  have HR := Lib.hid hR
  have H1 := Lib.hid h1
  have H2 := Lib.hid h2
  clear hR h1 h2
  go_enter Try.func37, Try.ntmps37
  go_wp2_with (go_at_call 52; refine same_any _ _ g1 g2 xs ys _ H1.out H2.out ?_; intro w1 h1; have F1 := Lib.hid h1; clear h1)
  exact HR.out _ F1.out
set_option maxRecDepth 100000 in
set_option maxHeartbeats 4000000 in
theorem twinB_any {R : Ending → World → Prop} (v : Value) (g : Option Nat) (bs : List UInt8) (w : World) (h : Bs w v g bs) (hmax : bs.length ≤ 1000000000000)
    (hR : ∀ v' g' w', TwAt w' v' g' bs → Fr No w w' → New w g' → R (.returned v') w') :
    Calls Try.prog 28 #[v] w R := by
  have HR := Lib.hid hR
  have H := Lib.hid h
  clear hR h
  go_enter Try.func28, Try.ntmps28
  go_wp2_with (go_at_call 46; refine twin_any _ g bs _ H.out hmax ?_; intro v1 g1 w1 h1 h2 h3; have F1 := Lib.hid h1; have F2 := Lib.hid h2; have F3 := Lib.hid h3; clear h1 h2 h3)
  exact HR.out _ _ _ F1.out F2.out F3.out
set_option maxRecDepth 100000 in
set_option maxHeartbeats 4000000 in
theorem left_any {R : Ending → World → Prop} (v v2 : Value) (g g2 : Option Nat) (bs : List UInt8) (w : World) (h : TwAt w v g bs) (h2 : Bs w v2 g2 bs)
    (hR : ∀ w', Fr No w w' → R (.returned (.bool true)) w') :
    Calls Try.prog 53 #[v, v2, .int .u8 195] w R := by
  have HR := Lib.hid hR
  have H := Lib.hid h
  have H2 := Lib.hid h2
  obtain ⟨b, o, c, rfl, rfl, hby⟩ := h
  obtain ⟨_, _, e, _, hc⟩ := two_some hby
  have HBY := Lib.hid hby
  have hcm : c ≤ 9223372036854775807 := by
    rcases Sl.out hby with ⟨_, _, e9, _⟩ | ⟨b', o', cap, e9, _, _, hm, _⟩
    · simp at e9
    · have : c = cap := by have := e9; simp at this; exact this.2
      unfold maxLen at hm
      omega
  clear hR h2 hby e
  go_enter Try.func53, Try.ntmps53
  go_upto_region 3 with (go_at_call 52; refine same_any _ _ (some b) g2 bs bs _ H.out.bs H2.out ?_; intro w1 h1; rw [decide_eq_true rfl]; have F1 := Lib.hid h1; clear h1)
  have hb1 := HBY.out.fr F1.out fun _ _ x => x
  obtain ⟨b', o', e1, q1⟩ := Bs.at hb1.src (k := bs.length) (by simp)
  obtain ⟨b'', o'', e2, q2⟩ := Bs.at hb1.src (k := bs.length + 1) (by simp)
  obtain ⟨rfl, rfl⟩ : b = b' ∧ o = o' := by simpa using e1
  obtain ⟨rfl, rfl⟩ : b = b'' ∧ o = o'' := by simpa using e2
  have x1 : w1.cell? ⟨b, o + bs.length, none⟩ = some (.int .u8 195) := by rw [q1]; simp [List.getElem_append_right]
  have x2 : w1.cell? ⟨b, o + bs.length + 1, none⟩ = some (.int .u8 195) := by
    rw [show o + bs.length + 1 = o + (bs.length + 1) by omega, q2]
    simp [List.getElem_append_right]
  have hne : ¬ c = bs.length := by omega
  have j1 : (bs.length : Int) ≤ (c : Int) := by omega
  have j2 : (2 : Int) ≤ ((c - bs.length : Nat) : Int) := by omega
  have j3 : (0 : Int) < ((c - bs.length : Nat) : Int) := by omega
  have j4 : (1 : Int) < ((c - bs.length : Nat) : Int) := by omega
  clear e1 e2 q1 q2 hb1
  go_wp2_with fail
  exact HR.out _ F1.out
set_option maxRecDepth 100000 in
set_option maxHeartbeats 4000000 in
theorem leftB_any {R : Ending → World → Prop} (v v2 : Value) (g g2 : Option Nat) (bs : List UInt8) (w : World) (h : TwAt w v g bs) (h2 : Bs w v2 g2 bs)
    (hR : ∀ w', Fr No w w' → R (.returned (.bool true)) w') :
    Calls Try.prog 39 #[v, v2] w R := by
  have HR := Lib.hid hR
  have H := Lib.hid h
  have H2 := Lib.hid h2
  clear hR h h2
  go_enter Try.func39, Try.ntmps39
  go_wp2_with (go_at_call 53; refine left_any _ _ g g2 bs _ H.out H2.out ?_; intro w1 h1; have F1 := Lib.hid h1; clear h1)
  exact HR.out _ F1.out
end Go.Proofs.Ythjpjekaiflibaa
