/- The document's disk in memory; at, asked, burn, SetFuse. -/
import Derived.Test.YthjpjekaiflibaaLit
namespace Go.Proofs.Ythjpjekaiflibaa
open Go.RowKit
structure RRep where
  f : File
  v : Value
  g : Option Nat
def rcells (fs : List RRep) : List Value := fs.flatMap fun r => [.string r.f.name, r.v, .int .i64 (r.f.sure : Int)]
theorem rcells_length (fs : List RRep) : (rcells fs).length = fs.length * 3 := by
  induction fs with
  | nil => rfl
  | cons r rs ih => simp only [rcells, List.flatMap_cons, List.length_append] at ih ⊢; simp only [List.length_cons, List.length_nil]; omega
theorem rcells_append (a b : List RRep) : rcells (a ++ b) = rcells a ++ rcells b := by simp [rcells]
theorem rcells_at {fs : List RRep} {k : Nat} (hk : k < fs.length) : (rcells fs)[k * 3]? = some (.string fs[k].f.name) ∧ (rcells fs)[k * 3 + 1]? = some fs[k].v ∧ (rcells fs)[k * 3 + 2]? = some (.int .i64 (fs[k].f.sure : Int)) := by
  induction fs generalizing k with
  | nil => cases hk
  | cons r rs ih =>
    have e : rcells (r :: rs) = [.string r.f.name, r.v, .int .i64 (r.f.sure : Int)] ++ rcells rs := rfl
    cases k with
    | zero => rw [e]; exact ⟨rfl, rfl, rfl⟩
    | succ k =>
      have h := ih (k := k) (by simpa using hk)
      rw [e]
      have s : ∀ j, ([.string r.f.name, r.v, .int .i64 (r.f.sure : Int)] ++ rcells rs)[(k + 1) * 3 + j]? = (rcells rs)[k * 3 + j]? := fun j => by
        rw [List.getElem?_append_right (by simp; omega)]
        congr 1
        simp
        omega
      exact ⟨(s 0).trans h.1, (s 1).trans h.2.1, (s 2).trans h.2.2⟩
structure RefRep (w : World) (br : Nat) (vl : Value) (gl : Option Nat) (fs : List RRep) (burns : Bool) (fuse : Int) (dead : Bool) : Prop where
  box : w.heap[br]? = some (.cells #[vl, .bool burns, .int .i64 fuse, .bool dead] 40 (0, 0))
  l : Sl w 68 3 vl gl fs.length (rcells fs)
  files : ∀ r ∈ fs, By w r.v r.g r.f.bytes
  nb : gl ≠ some br
  nf : ∀ r ∈ fs, ∀ k, r.g = some k → k ≠ br ∧ gl ≠ some k
  few : fs.length ≤ 16
  most : ∀ r ∈ fs, r.f.bytes.length ≤ 1048576 ∧ r.f.sure ≤ r.f.bytes.length
  fz : 0 ≤ fuse ∧ fuse ≤ 9223372036854775807
def rown (br : Nat) (gl : Option Nat) (fs : List RRep) : List Nat := br :: (gl.toList ++ fs.flatMap fun r => r.g.toList)
theorem mem_rown {br : Nat} {gl : Option Nat} {fs : List RRep} {k : Nat} : k ∈ rown br gl fs ↔ k = br ∨ gl = some k ∨ ∃ r ∈ fs, r.g = some k := by
  simp [rown]
theorem RefRep.lt {w : World} {br : Nat} {vl : Value} {gl : Option Nat} {fs : List RRep} {burns : Bool} {fuse : Int} {dead : Bool} (h : RefRep w br vl gl fs burns fuse dead) : ∀ k ∈ rown br gl fs, k < w.heap.size := by
  intro k hk
  rcases mem_rown.1 hk with rfl | hk | ⟨r, hr, hk⟩
  · exact block_lt h.box
  · exact h.l.lt k hk
  · exact (h.files r hr).lt k hk
theorem RefRep.fr {S : Nat → Prop} {w w' : World} {br : Nat} {vl : Value} {gl : Option Nat} {fs : List RRep} {burns : Bool} {fuse : Int} {dead : Bool} (h : RefRep w br vl gl fs burns fuse dead) (hF : Fr S w w') (hs : ∀ k ∈ rown br gl fs, ¬ S k) : RefRep w' br vl gl fs burns fuse dead :=
  ⟨hF.at h.box (hs _ (mem_rown.2 (.inl rfl))), h.l.fr hF fun k hk => hs k (mem_rown.2 (.inr (.inl hk))), fun r hr => (h.files r hr).fr hF fun k hk => hs k (mem_rown.2 (.inr (.inr ⟨r, hr, hk⟩))), h.nb, h.nf, h.few, h.most, h.fz⟩
/-- A file's places. -/
theorem RefRep.one {w : World} {br : Nat} {vl : Value} {gl : Option Nat} {fs : List RRep} {burns : Bool} {fuse : Int} {dead : Bool} (h : RefRep w br vl gl fs burns fuse dead) {k : Nat} (hk : k < fs.length) :
    ∃ b o c, vl = .slice (some ⟨b, o, none⟩) fs.length c ∧ gl = some b ∧ w.cell? ⟨b, o + k * 3, none⟩ = some (.string fs[k].f.name) ∧ w.cell? ⟨b, o + k * 3 + 1, none⟩ = some fs[k].v ∧ w.cell? ⟨b, o + k * 3 + 2, none⟩ = some (.int .i64 (fs[k].f.sure : Int)) := by
  obtain ⟨h0, h1, h2⟩ := rcells_at hk
  rcases h.l.out with ⟨_, _, e, _⟩ | ⟨b, o, c, e1, e2, _, _, _, hc, _⟩
  · omega
  · exact ⟨b, o, c, e1, e2, hc _ _ h0, hc _ _ h1, hc _ _ h2⟩
theorem toList_inj {a b : ByteArray} (h : a.toList = b.toList) : a = b := by
  rw [Go.ByteArray.toList_eq, Go.ByteArray.toList_eq] at h
  exact ByteArray.ext (Array.ext' h)
def AtIs (fs : List RRep) (s : ByteArray) (i : Int) : Prop := (i = -1 ∧ ∀ r ∈ fs, r.f.name ≠ s) ∨ ∃ (k : Nat) (hk : k < fs.length), i = k ∧ fs[k].f.name = s
def AtRel (w : World) (fs : List RRep) (s : ByteArray) (i : Value) (w' : World) : Prop := ∃ k : Nat, i = .int .i64 k ∧ k ≤ fs.length ∧ (∀ (j : Nat) (hj : j < fs.length), j < k → fs[j].f.name ≠ s) ∧ w' = w
set_option maxRecDepth 100000 in
set_option maxHeartbeats 4000000 in
theorem rat_any {R : Ending → World → Prop} {w : World} {br : Nat} {vl : Value} {gl : Option Nat} {fs : List RRep} {burns : Bool} {fuse : Int} {dead : Bool} (h : RefRep w br vl gl fs burns fuse dead) (s : ByteArray)
    (hR : ∀ i, AtIs fs s i → R (.returned (.int .i64 i)) w) :
    Calls Try.prog 48 #[.pointer (some ⟨br, 0, none⟩), .string s] w R := by
  have HR := Lib.hid hR
  have H := Lib.hid h
  have c0 := cell_at h.box 0 rfl
  have hfew := h.few
  obtain ⟨p, c, rfl, hpc⟩ := Sl.form h.l
  clear hR h
  go_enter Try.func48, Try.ntmps48
  go_wp2_with fail
  go_loopw [5] (fun i wr => AtRel w fs s i wr) (fun i _ => 20 - (intOf i).toNat)
  case atStart => exact ⟨0, rfl, by omega, fun j _ hj => absurd hj (by omega), rfl⟩
  case round =>
    obtain ⟨k, rfl, hk, hall, rfl⟩ := hrel
    by_cases hlt : k < fs.length
    · obtain ⟨b, o, c', e, _, e0, e1, e2⟩ := H.out.one hlt
      obtain ⟨rfl, rfl⟩ : p = some ⟨b, o, none⟩ ∧ c = c' := by simpa using e
      have hn : ∀ (j : Nat) (hj : j < fs.length), j = k → fs[j].f.name = fs[k].f.name := fun j hj e => by subst e; rfl
      have HX := Lib.hid (show fs[k].f.name = s → AtIs fs s (k : Int) from fun e => .inr ⟨k, hlt, rfl, e⟩)
      have ik0 : (0 : Int) ≤ (k : Int) := by omega
      have il : (k : Int) < (fs.length : Int) := by omega
      have HA := Lib.hid hall
      have HN := Lib.hid hn
      clear hall hn e e1 e2
      generalize fs[k].f.name = nm at *
      by_cases hs : nm = s
      · subst hs
        have HAt := Lib.hid (HX.out rfl)
        go_wp2_with fail
        exact HR.out _ HAt.out
      · have hs2 : (nm.toList == s.toList) = false := by
          rw [beq_eq_false_iff_ne]
          exact fun e => hs (toList_inj e)
        have HS := Lib.hid hs
        go_wp2_with fail
        refine ⟨⟨k + 1, by go_num, by omega, fun j hj h2 => ?_, rfl⟩, by simp [intOf]; omega⟩
        by_cases e : j = k
        · rw [HN.out j hj e]; exact HS.out
        · exact HA.out j hj (by omega)
    · have hkl : k = fs.length := by omega
      have HAt := Lib.hid (show AtIs fs s (-1) from .inl ⟨rfl, fun r hr => by
        obtain ⟨j, hj, e⟩ := List.mem_iff_getElem.1 hr
        rw [← e]
        exact hall j hj (by omega)⟩)
      clear hall
      subst hkl
      go_wp2_with fail
      exact HR.out _ HAt.out
set_option maxRecDepth 100000 in
set_option maxHeartbeats 4000000 in
theorem rasked_any {R : Ending → World → Prop} {w : World} {br : Nat} {vl : Value} {gl : Option Nat} {fs : List RRep} {burns : Bool} {fuse : Int} {dead : Bool} (h : RefRep w br vl gl fs burns fuse dead) (s : ByteArray) (hR : R (.returned (.int .i64 (askedE dead s))) w) :
    Calls Try.prog 47 #[.pointer (some ⟨br, 0, none⟩), .string s] w R := by
  have HR := Lib.hid hR
  have c3 := cell_at h.box 3 rfl
  clear hR h
  cases dead
  · by_cases h1 : s.size < 1
    · have j1 : (s.size : Int) < 1 := by omega
      have e : askedE false s = 1 := by
        have : s = ByteArray.empty := by have h0 : s.size = 0 := by omega
                                         simpa using h0
        rw [this]; decide +kernel
      rw [e] at HR
      clear e
      go_enter Try.func47, Try.ntmps47
      go_wp2_with fail
      exact HR.out
    · have j1 : (1 : Int) ≤ (s.size : Int) := by omega
      by_cases h2 : 16 < s.size
      · have j2 : (16 : Int) < (s.size : Int) := by omega
        have e : askedE false s = 1 := by simp [askedE, h2]
        rw [e] at HR
        clear e
        go_enter Try.func47, Try.ntmps47
        go_wp2_with fail
        exact HR.out
      · have j2 : (s.size : Int) ≤ 16 := by omega
        have e : askedE false s = 0 := by
          unfold askedE
          rw [if_neg (by decide), if_neg]
          rintro (h3 | h3)
          · rw [Go.ByteArray.toList_eq] at h3
            have : s.size = 0 := by
              have h4 : s.data.toList.length = 0 := by rw [h3]; rfl
              simpa using h4
            omega
          · omega
        rw [e] at HR
        clear e
        go_enter Try.func47, Try.ntmps47
        go_wp2_with fail
        exact HR.out
  · have e : askedE true s = 17 := rfl
    rw [e] at HR
    clear e
    go_enter Try.func47, Try.ntmps47
    go_wp2_with fail
    exact HR.out
/-- What burn answers, and leaves. -/
def burnOk (burns : Bool) (fuse : Int) : Bool := !burns || decide (fuse ≠ 0)
set_option maxRecDepth 100000 in
set_option maxHeartbeats 4000000 in
theorem rburn_any {R : Ending → World → Prop} {w : World} {br : Nat} {vl : Value} {gl : Option Nat} {fs : List RRep} {burns : Bool} {fuse : Int} {dead : Bool} (h : RefRep w br vl gl fs burns fuse dead)
    (hR : ∀ w', RefRep w' br vl gl fs burns (if burns = true ∧ fuse ≠ 0 then fuse - 1 else fuse) (dead || !burnOk burns fuse) → Fr (Is (some br)) w w' → R (.returned (.bool (burnOk burns fuse))) w') :
    Calls Try.prog 50 #[.pointer (some ⟨br, 0, none⟩)] w R := by
  have HR := Lib.hid hR
  have H := Lib.hid h
  have c1 := cell_at h.box 1 rfl
  have c2 := cell_at h.box 2 rfl
  have c3 := cell_at h.box 3 rfl
  have u2 := free_at h.box 2
  have u3 := free_at h.box 3
  have hfz := h.fz
  have keep : ∀ (w' : World) (fu : Int) (de : Bool), Fr (Is (some br)) w w' → w'.heap[br]? = some (.cells #[vl, .bool burns, .int .i64 fu, .bool de] 40 (0, 0)) → (0 ≤ fu ∧ fu ≤ 9223372036854775807) → RefRep w' br vl gl fs burns fu de := fun w' fu de hF hb hfu =>
    ⟨hb, h.l.fr hF fun k hk e => h.nb (by rw [hk, Option.some.inj e]), fun r hr => (h.files r hr).fr hF fun k hk e => (h.nf r hr k hk).1 (Option.some.inj e).symm, h.nb, h.nf, h.few, h.most, hfu⟩
  have HKEEP := Lib.hid keep
  clear hR h keep
  cases burns
  · have HR2 := Lib.hid (HR.out w (by simpa [burnOk] using H.out) (Fr.refl _ _))
    rw [show burnOk false fuse = true from rfl] at HR2
    go_enter Try.func50, Try.ntmps50
    go_wp2_with fail
    exact HR2.out
  · by_cases h0 : fuse = 0
    · subst h0
      go_enter Try.func50, Try.ntmps50
      go_wp2_with fail
      exact HR.out _ (HKEEP.out _ _ _ (Fr.set _ _ _ _) (by rw [setCell_box H.out.box]; simp [burnOk]) (by simp)) (Fr.set _ _ _ _)
    · have hb : burnOk true fuse = true := by simp [burnOk, h0]
      rw [hb, if_pos ⟨rfl, h0⟩] at HR
      have h1 : 1 ≤ fuse := by omega
      have HB := Lib.hid hb
      clear hb
      go_enter Try.func50, Try.ntmps50
      go_wp2_with fail
      exact HR.out _ (HKEEP.out _ _ _ (Fr.set _ _ _ _) (by rw [setCell_box H.out.box]; simp) (by omega)) (Fr.set _ _ _ _)
end Go.Proofs.Ythjpjekaiflibaa
