/- A promise in memory: may, Term, Vote. -/
import Derived.Test.YthjpjekaiflibaaDoorFrames
namespace Go.Proofs.YthjpjekaiflibaaDoor
open Go.RowKit
def nState : ByteArray := ⟨#[115, 116, 97, 116, 101]⟩
/-- May a promise of (t, v) become one of (t', v')? -/
def mayD (t v t' v' : Nat) : Bool := decide (t < t') || (decide (t' = t ∧ v' = v) || (decide (t' = t) && decide (v = 0)))
set_option maxRecDepth 100000 in
set_option maxHeartbeats 4000000 in
theorem may_any {R : Ending → World → Prop} (t v t' v' : Nat) (w : World) (hR : ∀ w', Fr No w w' → R (.returned (.bool (mayD t v t' v'))) w') :
    Calls Tryd.prog 44 #[.agg #[.int .u64 t, .int .u8 v], .agg #[.int .u64 t', .int .u8 v']] w R := by
  have HR := Lib.hid (hR _ ((Fr.alloc No w (.cells #[.int .u64 t, .int .u8 v] 24)).trans (Fr.alloc No _ (.cells #[.int .u64 t', .int .u8 v'] 24))))
  clear hR
  by_cases h1 : t < t'
  · have j1 : (t : Int) < (t' : Int) := by omega
    have hm : mayD t v t' v' = true := by simp [mayD, h1]
    rw [hm] at HR
    clear hm
    go_enter Tryd.func44, Tryd.ntmps44
    go_wp2
    exact HR.out
  · by_cases h2 : t' = t
    · subst h2
      by_cases h3 : v' = v
      · subst h3
        have hm : mayD t' v' t' v' = true := by simp [mayD]
        rw [hm] at HR
        clear hm
        go_enter Tryd.func44, Tryd.ntmps44
        go_wp2
        exact HR.out
      · have j3 : ¬ (v' : Int) = (v : Int) := by omega
        by_cases h4 : v = 0
        · subst h4
          have hm : mayD t' 0 t' v' = true := by simp [mayD]
          rw [hm] at HR
          clear hm
          go_enter Tryd.func44, Tryd.ntmps44
          go_wp2
          exact HR.out
        · have j4 : ¬ (v : Int) = 0 := by omega
          have hm : mayD t' v t' v' = false := by simp [mayD, h3, h4]
          have hb : ((v : Int) == 0) = false := by simp; omega
          have h9 := HR.out
          rw [hm, ← hb] at h9
          have H9 := Lib.hid h9
          clear hm h9 hb HR j4 h4
          go_enter Tryd.func44, Tryd.ntmps44
          go_wp2
          exact H9.out
    · have j1 : (t' : Int) < (t : Int) := by omega
      have j2 : ¬ (t' : Int) = (t : Int) := by omega
      have hm : mayD t v t' v' = false := by simp [mayD, h1, h2]
      rw [hm] at HR
      clear hm
      go_enter Tryd.func44, Tryd.ntmps44
      go_wp2
      exact HR.out
/-- A promise lies at block bp. -/
def PromiseAt (w : World) (bp t v bd : Nat) (lost : Bool) : Prop := w.heap[bp]? = some (.cells #[.int .u64 t, .int .u8 v, .pointer (some ⟨bd, 0, none⟩), .bool lost] 27 (0, 0))
theorem PromiseAt.fr {S : Nat → Prop} {w w' : World} {bp t v bd : Nat} {lost : Bool} (h : PromiseAt w bp t v bd lost) (hF : Fr S w w') (hs : ¬ S bp) : PromiseAt w' bp t v bd lost := hF.at h hs
set_option maxRecDepth 100000 in
set_option maxHeartbeats 4000000 in
theorem term_any {w : World} {bp t v bd : Nat} {lost : Bool} (h : PromiseAt w bp t v bd lost) :
    Calls Tryd.prog 12 #[.pointer (some ⟨bp, 0, none⟩)] w fun e w' => e = .returned (.int .u64 t) ∧ w = w' := by
  have c0 := cell_at h 0 rfl
  clear h
  go_enter Tryd.func12, Tryd.ntmps12
  go_wp2
  go_ret
  exact ⟨rfl, rfl⟩
set_option maxRecDepth 100000 in
set_option maxHeartbeats 4000000 in
theorem vote_any {w : World} {bp t v bd : Nat} {lost : Bool} (h : PromiseAt w bp t v bd lost) :
    Calls Tryd.prog 13 #[.pointer (some ⟨bp, 0, none⟩)] w fun e w' => e = .returned (.int .u8 v) ∧ w = w' := by
  have c1 := cell_at h 1 rfl
  clear h
  go_enter Tryd.func13, Tryd.ntmps13
  go_wp2
  go_ret
  exact ⟨rfl, rfl⟩
end Go.Proofs.YthjpjekaiflibaaDoor
