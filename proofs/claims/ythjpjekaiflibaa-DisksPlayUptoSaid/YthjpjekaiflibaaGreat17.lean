/- Great: what is more than is gone through, of the doings that came in. -/
import Derived.Test.YthjpjekaiflibaaArgs
import Derived.BigQuiet
namespace Go.Proofs.Ythjpjekaiflibaa
open Go.RowKit
def actN (A : ActD) : Nat := A.b.length + A.loss.length + A.name.size
def sumN (L : List ActD) : Nat := (L.map actN).sum
def greatD (L : List ActD) : Bool := decide (150 < L.length) || decide (30000 < sumN L)
/-- One doing of a row, as the walk meets it. -/
structure ActOne (w : World) (b o k : Nat) (A : ActD) (v2 v4 : Value) : Prop where
  c0 : w.cell? ⟨b, o + k * 5, none⟩ = some (.int .u8 A.kind)
  c1 : w.cell? ⟨b, o + k * 5 + 1, none⟩ = some (.string A.name)
  c2 : w.cell? ⟨b, o + k * 5 + 2, none⟩ = some v2
  c3 : w.cell? ⟨b, o + k * 5 + 3, none⟩ = some (.int .i64 A.n)
  c4 : w.cell? ⟨b, o + k * 5 + 4, none⟩ = some v4
theorem ActsV.one {w : World} {v : Value} {L : List ActD} (h : ActsV w v L) {k : Nat} (hk : k < L.length) :
    ∃ b o c v2 v4, v = .slice (some ⟨b, o, none⟩) L.length c ∧ ActOne w b o k L[k] v2 v4 ∧ ActV w [.int .u8 L[k].kind, .string L[k].name, v2, .int .i64 L[k].n, v4] L[k] := by
  obtain ⟨p, c, rfl, _, _, h0 | ⟨b, o, rfl, hb, he⟩⟩ := h
  · omega
  · obtain ⟨cs, hA, hc⟩ := he k L[k] (List.getElem?_eq_getElem hk)
    obtain ⟨⟨v2, v4, rfl, hx⟩, h2⟩ := hA
    refine ⟨b, o, c, v2, v4, rfl, ⟨?_, ?_, ?_, ?_, ?_⟩, ⟨⟨v2, v4, rfl, hx⟩, h2, by assumption, by assumption⟩⟩
    · exact hc 0 _ rfl
    · exact hc 1 _ rfl
    · exact hc 2 _ rfl
    · exact hc 3 _ rfl
    · exact hc 4 _ rfl
def GreatRel (w : World) (L : List ActD) (s i : Value) (w' : World) : Prop := ∃ k : Nat, s = .int .i64 (sumN (L.take k)) ∧ i = .int .i64 k ∧ k ≤ L.length ∧ Fr No w w'
theorem sumN_le (L : List ActD) (n : Nat) (h : ∀ A ∈ L, A.small n) : sumN L ≤ L.length * (3 * n) := by
  induction L with
  | nil => simp [sumN]
  | cons A L ih =>
    have h1 := h A (List.mem_cons_self ..)
    have h2 := ih fun B hB => h B (List.mem_cons_of_mem _ hB)
    have h3 : actN A ≤ 3 * n := by obtain ⟨a, b, c⟩ := h1; unfold actN; omega
    have h4 : sumN (A :: L) = actN A + sumN L := by simp [sumN]
    rw [h4, List.length_cons, Nat.succ_mul]
    omega
theorem sumN_take {L : List ActD} {k : Nat} (hk : k < L.length) : sumN (L.take (k + 1)) = sumN (L.take k) + actN L[k] := by
  rw [List.take_succ_eq_append_getElem hk]
  simp only [sumN, List.map_append, List.sum_append, List.map_cons, List.map_nil, List.sum_cons, List.sum_nil, Nat.add_zero]
set_option maxRecDepth 100000 in
set_option maxHeartbeats 4000000 in
theorem great_any {R : Ending → World → Prop} (w : World) (v : Value) (L : List ActD) (h : ActsV w v L) (hs : ∀ A ∈ L, A.small 1048576) (hR : ∀ w', Fr No w w' → R (.returned (.bool (greatD L))) w') :
    Calls Try.prog 14 #[v] w R := by
  have HV := Lib.hid h
  have HR := Lib.hid hR
  have HS := Lib.hid hs
  obtain ⟨p, c, rfl, h1, h2, _⟩ := h
  clear hR hs
  by_cases hlen : 150 < L.length
  · have jl : (150 : Int) < (L.length : Int) := by omega
    have hg : greatD L = true := by simp [greatD, hlen]
    rw [hg] at HR
    clear hg
    go_enter Try.func14, Try.ntmps14
    go_wp2
    exact HR.out _ (Fr.refl _ _)
  · have jl : (L.length : Int) ≤ 150 := by omega
    go_enter Try.func14, Try.ntmps14
    go_wp2_with fail
    go_loopw [3, 4] (fun s i wr => GreatRel w L s i wr) (fun _ i _ => 200 - (intOf i).toNat)
    case atStart => exact ⟨0, rfl, rfl, by omega, Fr.refl _ _⟩
    case round =>
      obtain ⟨k, rfl, rfl, hk, hF⟩ := hrel
      have HF := Lib.hid hF
      have hsum : sumN (L.take k) ≤ 150 * (3 * 1048576) := by
        have h3 := sumN_le (L.take k) 1048576 fun A hA => HS.out A (List.mem_of_mem_take hA)
        have h4 : (L.take k).length ≤ 150 := by simp; omega
        exact Nat.le_trans h3 (Nat.mul_le_mul_right _ h4)
      by_cases hlt : k < L.length
      · obtain ⟨b, o, c', v2, v4, e, hone, hact⟩ := (HV.out.fr hF fun _ _ x => x).one hlt
        obtain ⟨rfl, rfl⟩ : p = some ⟨b, o, none⟩ ∧ c = c' := by simpa using e
        have hsm := HS.out _ (List.getElem_mem hlt)
        have hnext := sumN_take hlt
        obtain ⟨A, hA⟩ : ∃ A, A = L[k] := ⟨_, rfl⟩
        rw [← hA] at hone hact hsm hnext
        clear hA e hF
        obtain ⟨⟨w2, w4, e, ⟨g2, b1, _⟩, g4, l1, _⟩, _⟩ := hact
        obtain ⟨rfl, rfl⟩ : v2 = w2 ∧ v4 = w4 := by simpa using e
        clear e
        obtain ⟨p2, q2, rfl, _⟩ := Src.form b1
        obtain ⟨p4, q4, rfl, _⟩ := Src.form l1
        obtain ⟨c0, c1, c2, c3, c4⟩ := hone
        obtain ⟨n1, n2, n3⟩ := hsm
        unfold actN at hnext
        clear b1 l1 c0 c3
        generalize sumN (L.take k) = s at hsum hnext
        have ik : (0 : Int) ≤ (k : Int) := by omega
        have il : (k : Int) < (L.length : Int) := by omega
        have x1 : IntKind.i64.wrap ((s : Int) + (A.b.length : Int)) = (s : Int) + (A.b.length : Int) := IntWalk.i64_in _ (by omega)
        have x2 : IntKind.i64.wrap ((s : Int) + (A.b.length : Int) + (A.loss.length : Int)) = (s : Int) + (A.b.length : Int) + (A.loss.length : Int) := IntWalk.i64_in _ (by omega)
        have x3 : IntKind.i64.wrap ((s : Int) + (A.b.length : Int) + (A.loss.length : Int) + (A.name.size : Int)) = (s : Int) + (A.b.length : Int) + (A.loss.length : Int) + (A.name.size : Int) := IntWalk.i64_in _ (by omega)
        have HN := Lib.hid hnext
        clear hnext
        go_wp2_with fail
        go_quiet (fail)
        go_wp2_with fail
        exact ⟨⟨k + 1, by rw [HN.out]; go_num, by go_num, by omega, HF.out.trans (Fr.drewN _ _ _)⟩, by simp [intOf]; omega⟩
      · have hkl : k = L.length := by omega
        clear hF
        subst hkl
        rw [List.take_length] at hsum ⊢
        by_cases hg : 30000 < sumN L
        · have jg : (30000 : Int) < (sumN L : Int) := by omega
          have hgr : greatD L = true := by simp [greatD, hg]
          rw [hgr] at HR
          clear hgr
          go_wp2
          exact HR.out _ HF.out
        · have jg : (sumN L : Int) ≤ 30000 := by omega
          have hgr : greatD L = false := by simp [greatD]; omega
          rw [hgr] at HR
          clear hgr
          have hd : decide ((30000 : Int) < (sumN L : Int)) = false := by simp; omega
          have h3 := HR.out _ HF.out
          rw [← hd] at h3
          clear hd jg
          go_wp2
          exact h3
end Go.Proofs.Ythjpjekaiflibaa
