/- frames.Get: the first frame. -/
import Derived.Test.YthjpjekaiflibaaDoorGet2
namespace Go.Proofs.YthjpjekaiflibaaDoor
open Go.RowKit
def lowD (bs : List UInt8) : Bool := bs.any fun c => decide (c.toNat < 128)
def sizeD (bs : List UInt8) : Nat × Nat × Nat :=
  if (takeD bs).2.1 = 0 then (if bs.length < 10 ∧ lowD bs = false then (0, 0, 5) else (0, 0, 4))
  else if 8192 < (takeD bs).1 then (0, 0, 4) else ((takeD bs).1, (takeD bs).2.1, 0)
def getD (bs : List UInt8) : List UInt8 × Nat × Nat :=
  if (sizeD bs).2.2 ≠ 0 then ([], 0, (sizeD bs).2.2)
  else if bs.length < (sizeD bs).2.1 + (sizeD bs).1 + 4 then ([], 0, 5)
  else if endsD (bs.take ((sizeD bs).2.1 + (sizeD bs).1 + 4)) = false then ([], 0, 6)
  else ((bs.drop (sizeD bs).2.1).take (sizeD bs).1, (sizeD bs).2.1 + (sizeD bs).1 + 4, 0)
set_option maxRecDepth 100000 in
set_option maxHeartbeats 4000000 in
theorem size_frame {R : Ending → World → Prop} (v : Value) (g : Option Nat) (bs : List UInt8) (w : World) (h : Bs w v g bs)
    (hR : R (.returned (.tuple #[.int .i64 (sizeD bs).1, .int .i64 (sizeD bs).2.1, .int .i64 (sizeD bs).2.2])) w) :
    Calls Tryd.prog 106 #[v] w R := by
  have HR := Lib.hid hR
  have H := Lib.hid h
  obtain ⟨p, c, rfl, _⟩ := Src.form h
  obtain ⟨t1, t2, t3⟩ := takeD_small bs
  obtain ⟨n, hn⟩ : ∃ n, (takeD bs).1 = n := ⟨_, rfl⟩
  obtain ⟨k, hk⟩ : ∃ k, (takeD bs).2.1 = k := ⟨_, rfl⟩
  have HK := Lib.hid hk
  have HN := Lib.hid hn
  rw [hn] at t1
  rw [hk] at t2 t3
  clear hR h hn hk
  by_cases h0 : k = 0
  · subst h0
    by_cases hl : bs.length < 10
    · have jl : (bs.length : Int) < 10 := by omega
      cases ha : lowD bs
      · have e : sizeD bs = (0, 0, 5) := by unfold sizeD; rw [HK.out, if_pos rfl, if_pos ⟨hl, ha⟩]
        rw [e] at HR
        have HA := Lib.hid ha
        clear e ha
        go_enter Tryd.func106, Tryd.ntmps106
        go_wp2_with (first
          | (go_at_call 81; refine Take_any _ g bs _ H.out ?_; rw [HN.out, HK.out])
          | (go_at_call 123; refine contains_any _ g bs _ H.out ?_; rw [show (bs.any fun c => decide (c.toNat < 128)) = false from HA.out]))
        go_ret3
        exact HR.out
      · have e : sizeD bs = (0, 0, 4) := by unfold sizeD; rw [HK.out, if_pos rfl, if_neg (by rw [ha]; simp)]
        rw [e] at HR
        have HA := Lib.hid ha
        clear e ha
        go_enter Tryd.func106, Tryd.ntmps106
        go_wp2_with (first
          | (go_at_call 81; refine Take_any _ g bs _ H.out ?_; rw [HN.out, HK.out])
          | (go_at_call 123; refine contains_any _ g bs _ H.out ?_; rw [show (bs.any fun c => decide (c.toNat < 128)) = true from HA.out]))
        go_ret3
        exact HR.out
    · have jl : (10 : Int) ≤ (bs.length : Int) := by omega
      have e : sizeD bs = (0, 0, 4) := by unfold sizeD; rw [HK.out, if_pos rfl, if_neg (by omega)]
      rw [e] at HR
      clear e
      go_enter Tryd.func106, Tryd.ntmps106
      go_wp2_with (first
        | (go_at_call 81; refine Take_any _ g bs _ H.out ?_; rw [HN.out, HK.out]))
      go_ret3
      exact HR.out
  · have jk : ((k : Int) == 0) = false := by simp; omega
    have jk2 : ¬ (k : Int) = 0 := by omega
    by_cases hm : 8192 < n
    · have jm : (8192 : Int) < (n : Int) := by omega
      have e : sizeD bs = (0, 0, 4) := by unfold sizeD; rw [HK.out, HN.out, if_neg h0, if_pos hm]
      rw [e] at HR
      clear e
      go_enter Tryd.func106, Tryd.ntmps106
      go_wp2_with (first
        | (go_at_call 81; refine Take_any _ g bs _ H.out ?_; rw [HN.out, HK.out]))
      go_ret3
      exact HR.out
    · have jm : (n : Int) ≤ 8192 := by omega
      have e : sizeD bs = (n, k, 0) := by unfold sizeD; rw [HK.out, HN.out, if_neg h0, if_neg hm]
      rw [e] at HR
      clear e
      go_enter Tryd.func106, Tryd.ntmps106
      go_wp2_with (first
        | (go_at_call 81; refine Take_any _ g bs _ H.out ?_; rw [HN.out, HK.out]))
      go_ret3
      exact HR.out
theorem sizeD_facts (bs : List UInt8) : (sizeD bs).1 ≤ 8192 ∧ (sizeD bs).2.1 ≤ 10 ∧ (sizeD bs).2.1 ≤ bs.length := by
  have := takeD_small bs
  unfold sizeD
  split
  · split <;> simp
  · split <;> simp <;> omega
theorem getD_len (bs : List UInt8) : (getD bs).1.length ≤ 8192 ∧ (getD bs).2.1 ≤ bs.length ∧ (getD bs).2.1 ≤ 8206 := by
  have h := sizeD_facts bs
  unfold getD
  split
  · simp
  · split
    · simp
    · split
      · simp
      · refine ⟨by simp; omega, by dsimp only; omega, by dsimp only; omega⟩
set_option maxRecDepth 100000 in
set_option maxHeartbeats 4000000 in
theorem get_any {R : Ending → World → Prop} (v : Value) (g : Option Nat) (bs : List UInt8) (w : World) (hT : Tab w) (h : Bs w v g bs)
    (hR : ∀ v' g' w', By w' v' g' (getD bs).1 → Fr No w w' → New w g' → R (.returned (.tuple #[v', .int .i64 (getD bs).2.1, .int .i64 (getD bs).2.2])) w') :
    Calls Tryd.prog 80 #[v] w R := by
  have HR := Lib.hid hR
  have H := Lib.hid h
  have HT := Lib.hid hT
  obtain ⟨p, c, rfl, _⟩ := Src.form h
  have hm := Src.len_le h
  have hl : bs.length ≤ 9223372036854775807 := by unfold maxLen at hm; omega
  obtain ⟨t1, t2, t3⟩ := sizeD_facts bs
  obtain ⟨n, hn⟩ : ∃ n, (sizeD bs).1 = n := ⟨_, rfl⟩
  obtain ⟨k, hk⟩ : ∃ k, (sizeD bs).2.1 = k := ⟨_, rfl⟩
  obtain ⟨e, he⟩ : ∃ e, (sizeD bs).2.2 = e := ⟨_, rfl⟩
  have HK := Lib.hid hk
  have HN := Lib.hid hn
  have HE := Lib.hid he
  rw [hn] at t1
  rw [hk] at t2 t3
  clear hR h hn hk he hm hT
  by_cases h0 : e = 0
  · by_cases hall : bs.length < k + n + 4
    · have ja : (bs.length : Int) < (k : Int) + (n : Int) + 4 := by omega
      have eg : getD bs = ([], 0, 5) := by unfold getD; rw [HE.out, HK.out, HN.out, if_neg (by omega), if_pos hall]
      have HR3 := Lib.hid (HR.out _ none w (show By w (.slice none 0 0) none (getD bs).1 by rw [eg]; exact By.nil w) (Fr.refl _ _) (fun k e => by cases e))
      rw [eg] at HR3
      clear eg
      subst h0
      go_enter Tryd.func80, Tryd.ntmps80
      go_wp2_with (go_at_call 106; refine size_frame _ g bs _ H.out ?_; rw [HN.out, HK.out, HE.out])
      go_ret3
      exact HR3.out
    · have ja : (k : Int) + (n : Int) + 4 ≤ (bs.length : Int) := by omega
      obtain ⟨b, o, rfl⟩ := H.out.addr (by omega)
      have hc0 : ¬ c = 0 := by omega
      have hck : ¬ c = k := by omega
      have hac : (k : Int) + (n : Int) + 4 ≤ (c : Int) := by omega
      have hnc : (k : Int) + (n : Int) ≤ (c : Int) := by omega
      have HA := Lib.hid (H.out.part 0 (k + n + 4) (c' := c) (by omega) (by omega) (by omega))
      have HB := Lib.hid (H.out.part k n (c' := c - k) (by omega) (by omega) (by omega))
      rw [show o + 0 = o from rfl, List.drop_zero] at HA
      have hbn : ((bs.drop k).take n).length = n := by simp; omega
      obtain ⟨body, hbody⟩ : ∃ body, (bs.drop k).take n = body := ⟨_, rfl⟩
      rw [hbody] at HB hbn
      have HBO := Lib.hid hbody
      have i1 : ((k : Int) + (n : Int) + 4).toNat = k + n + 4 := by omega
      have i2 : ((k : Int) + (n : Int)).toNat = k + n := by omega
      have i3 : k + n - k = n := by omega
      have i4 : (k : Int).toNat = k := by omega
      have HBN := Lib.hid hbn
      subst h0
      clear hbody hbn hall
      cases hends : endsD (bs.take (k + n + 4))
      · have eg : getD bs = ([], 0, 6) := by unfold getD; rw [HE.out, HK.out, HN.out, if_neg (by omega), if_neg (by omega), if_pos hends]
        have HEN := Lib.hid hends
        have HR3 := Lib.hid fun w' (hF : Fr No w w') => (HR.out _ none w' (show By w' (.slice none 0 0) none (getD bs).1 by rw [eg]; exact By.nil w') hF (fun k e => by cases e))
        rw [eg] at HR3
        clear eg hends
        go_enter Tryd.func80, Tryd.ntmps80
        go_wp2_with (first
          | (go_at_call 106; refine size_frame _ g bs _ H.out ?_; rw [HN.out, HK.out, HE.out])
          | (go_at_call 107; refine ends_any _ g _ _ HT.out HA.out ?_; intro w1 h1; rw [HEN.out]; have F1 := Lib.hid h1; clear h1))
        go_ret3
        exact HR3.out _ F1.out
      · have eg : getD bs = (body, k + n + 4, 0) := by unfold getD; rw [HE.out, HK.out, HN.out, if_neg (by omega), if_neg (by omega), if_neg (by rw [hends]; simp), HBO.out]
        have HEN := Lib.hid hends
        rw [eg] at HR
        clear eg hends
        go_enter Tryd.func80, Tryd.ntmps80
        go_wp2_with (first
          | (go_at_call 106; refine size_frame _ g bs _ H.out ?_; rw [HN.out, HK.out, HE.out])
          | (go_at_call 107; refine ends_any _ g _ _ HT.out HA.out ?_; intro w1 h1; rw [HEN.out]; have F1 := Lib.hid h1; clear h1)
          | (go_at_call 71; refine clone_any _ g body _ (by rw [← HBN.out] at HB ⊢; exact HB.out.fr F1.out fun _ _ x => x) (by have := HBN.out; omega) ?_; intro v2 g2 w2 h1 h2 h3 _; obtain ⟨p2, c2, rfl, _⟩ := Sl.form h1; have K1 := Lib.hid h1; have K2 := Lib.hid h2; have K3 := Lib.hid h3; clear h1 h2 h3)
          | (go_at_call 79; refine clip_any _ _ body _ K1.out ?_; intro v3 h1 _; have L1 := Lib.hid h1; clear h1))
        go_ret3
        exact HR.out _ g2 _ L1.out (F1.out.trans K2.out) fun k hk => by have := K3.out k hk; have := F1.out.size; omega
  · have je : ¬ (e : Int) = 0 := by omega
    have je2 : ((e : Int) == 0) = false := by simp; omega
    have eg : getD bs = ([], 0, e) := by unfold getD; rw [HE.out, if_pos h0]
    have HR3 := Lib.hid (HR.out _ none w (show By w (.slice none 0 0) none (getD bs).1 by rw [eg]; exact By.nil w) (Fr.refl _ _) (fun k e => by cases e))
    rw [eg] at HR3
    clear eg
    go_enter Tryd.func80, Tryd.ntmps80
    go_wp2_with (go_at_call 106; refine size_frame _ g bs _ H.out ?_; rw [HN.out, HK.out, HE.out])
    go_ret3
    exact HR3.out
end Go.Proofs.YthjpjekaiflibaaDoor
