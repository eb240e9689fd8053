/- Sums of bytes: More, Of, four. -/
import Derived.Test.YthjpjekaiflibaaDoorTake2
namespace Go.Proofs.YthjpjekaiflibaaDoor
open Go.RowKit
def tab : List Nat := [0x00000000, 0x1db71064, 0x3b6e20c8, 0x26d930ac, 0x76dc4190, 0x6b6b51f4, 0x4db26158, 0x5005713c, 0xedb88320, 0xf00f9344, 0xd6d6a3e8, 0xcb61b38c, 0x9b64c2b0, 0x86d3d2d4, 0xa00ae278, 0xbdbdf21c]
def tabN (j : Nat) : Nat := tab.getD j 0
/-- The table lies where it was laid. -/
def Tab (w : World) : Prop := ∀ j, j < 16 → w.cell? ⟨0, j, none⟩ = some (.int .u32 ((tabN j : Nat) : Int))
theorem Tab.fr {S : Nat → Prop} {w w' : World} (h : Tab w) (hF : Fr S w w') (hs : ¬ S 0) : Tab w' := fun j hj => hF.cell (h j hj) hs
theorem tab_small (j : Nat) : tabN j < 4294967296 := by
  have h : ∀ x ∈ tab, x < 4294967296 := by decide +kernel
  unfold tabN
  rw [List.getD_eq_getElem?_getD]
  cases e : tab[j]? with
  | none => simp
  | some x => simpa using h x (List.mem_of_getElem? e)
/-- Half a byte more. -/
def crcHalf (n c : Nat) : Nat := n / 16 ^^^ tabN ((n ^^^ c) % 16)
def crcByte (n : Nat) (c : UInt8) : Nat := crcHalf (crcHalf n c.toNat) (c.toNat / 16)
def crc (sum : Nat) (bs : List UInt8) : Nat := 4294967295 - bs.foldl crcByte (4294967295 - sum)
theorem crcHalf_small {n c : Nat} (hn : n < 4294967296) : crcHalf n c < 4294967296 :=
  Nat.xor_lt_two_pow (n := 32) (by omega) (tab_small _)
theorem crcByte_small {n : Nat} {c : UInt8} (hn : n < 4294967296) : crcByte n c < 4294967296 := crcHalf_small (crcHalf_small hn)
theorem crc_small (sum : Nat) (bs : List UInt8) : crc sum bs < 4294967296 := by unfold crc; omega
theorem half_facts (n c : Nat) (hn : n < 4294967296) (hc : c < 256) :
    bits .xor .u32 (n : Int) (c : Int) = ((n ^^^ c : Nat) : Int) ∧ bits .and .u32 ((n ^^^ c : Nat) : Int) 15 = (((n ^^^ c) % 16 : Nat) : Int) ∧
    bits .xor .u32 ((n : Int) / 16) ((tabN ((n ^^^ c) % 16) : Nat) : Int) = ((crcHalf n c : Nat) : Int) := by
  have hx : n ^^^ c < 4294967296 := Nat.xor_lt_two_pow (n := 32) (by omega) (by omega)
  refine ⟨Go.u32_xor_nat _ _ hn (by omega), ?_, ?_⟩
  · have := Go.u32_and_nat (n ^^^ c) 15 hx (by decide)
    rw [show ((15 : Nat) : Int) = 15 from rfl] at this
    rw [this]
    congr 1
    exact Nat.and_two_pow_sub_one_eq_mod _ 4
  · rw [show ((n : Int) / 16) = ((n / 16 : Nat) : Int) by omega]
    exact Go.u32_xor_nat _ _ (by omega) (tab_small _)
theorem not_sum (n : Nat) (hn : n < 4294967296) : bits .xor .u32 IntKind.u32.max (n : Int) = ((4294967295 - n : Nat) : Int) := by
  have h := Go.u32_xor_nat 4294967295 n (by decide) hn
  rw [show IntKind.u32.max = ((4294967295 : Nat) : Int) from rfl, h]
  congr 1
  have h2 : (BitVec.allOnes 32 ^^^ BitVec.ofNat 32 n).toNat = (~~~(BitVec.ofNat 32 n)).toNat := by rw [← BitVec.not_def]
  rw [BitVec.toNat_xor, BitVec.toNat_not, BitVec.toNat_allOnes, BitVec.toNat_ofNat] at h2
  rw [Nat.mod_eq_of_lt (by omega)] at h2
  exact h2
def MoreRel (w : World) (bs : List UInt8) (m0 : Nat) (n i : Value) (w' : World) : Prop :=
  ∃ (k m : Nat), n = .int .u32 m ∧ i = .int .i64 k ∧ k ≤ bs.length ∧ m < 4294967296 ∧ m = (bs.take k).foldl crcByte m0 ∧ w' = w
set_option maxRecDepth 100000 in
set_option maxHeartbeats 4000000 in
theorem more_any {R : Ending → World → Prop} (sum : Nat) (v : Value) (g : Option Nat) (bs : List UInt8) (w : World) (hs : sum < 4294967296) (ht : Tab w) (h : Bs w v g bs)
    (hR : R (.returned (.int .u32 (crc sum bs))) w) :
    Calls Tryd.prog 126 #[.int .u32 sum, v] w R := by
  have HR := Lib.hid hR
  have H := Lib.hid h
  have HT := Lib.hid ht
  obtain ⟨p, c, rfl, hpc⟩ := Src.form h
  have hmx := Src.len_le h
  have hlen : bs.length ≤ 9223372036854775807 := by unfold maxLen at hmx; omega
  clear hR h hmx ht
  go_enter Tryd.func126, Tryd.ntmps126
  go_wp2_with fail
  rw [not_sum sum hs]
  go_loopw [5, 12] (fun n i wr => MoreRel w bs (4294967295 - sum) n i wr) (fun _ i _ => bs.length - (intOf i).toNat)
  case atStart => exact ⟨0, _, rfl, rfl, by omega, by omega, rfl, rfl⟩
  case round =>
    obtain ⟨k, m, rfl, rfl, hk, hm, heq, rfl⟩ := hrel
    have HE := Lib.hid heq
    clear heq
    by_cases hl : k < bs.length
    · have ik0 : (0 : Int) ≤ (k : Int) := by omega
      have il : (k : Int) < (bs.length : Int) := by omega
      obtain ⟨b, o, rfl, hcell⟩ : ∃ b o, p = some ⟨b, o, none⟩ ∧ wr.cell? ⟨b, o + k, none⟩ = some (.int .u8 (bs[k].toNat : Int)) := by
        obtain ⟨_, p', c', e, _, _, _, h0 | ⟨b, o, e1, _, hc⟩⟩ := H.out
        · omega
        · refine ⟨b, o, ?_, hc k (encB bs[k]) (by simp [hl])⟩
          have : p = p' ∧ c = c' := by simpa using e
          exact this.1.trans e1
      have htk := List.take_succ_eq_append_getElem hl
      generalize bs[k] = x at hcell htk
      have hx := x.toNat_lt
      obtain ⟨e1, e2, e3⟩ := half_facts m x.toNat hm (by omega)
      have hm1 : crcHalf m x.toNat < 4294967296 := crcHalf_small hm
      obtain ⟨e4, e5, e6⟩ := half_facts (crcHalf m x.toNat) (x.toNat / 16) hm1 (by omega)
      rw [show ((x.toNat / 16 : Nat) : Int) = (x.toNat : Int) / 16 by omega] at e4
      have t1 := HT.out ((m ^^^ x.toNat) % 16) (Nat.mod_lt _ (by decide))
      have t2 := HT.out ((crcHalf m x.toNat ^^^ x.toNat / 16) % 16) (Nat.mod_lt _ (by decide))
      have HTK := Lib.hid htk
      clear htk
      go_wp2_with fail
      refine ⟨⟨k + 1, crcByte m x, rfl, by go_num, by omega, crcByte_small hm, ?_, rfl⟩, by simp [intOf]; omega⟩
      rw [HTK.out, List.foldl_append, ← HE.out]
      rfl
    · have hk' : k = bs.length := by omega
      have hn := not_sum m hm
      have hr : crc sum bs = 4294967295 - m := by rw [HE.out, hk', List.take_length]; rfl
      rw [hr] at HR
      have HRR := HR
      clear HR hr hk'
      go_wp2_with fail
      exact HRR.out
end Go.Proofs.YthjpjekaiflibaaDoor
