/-
  DERIVED: THE SHELF's CONTRACTS AT THIS DUMP, IN PLAIN WORDS (tools/lay-plain.mjs out of 'TrydShelf.lean', which tools/lay-shelf.mjs wrote): THE SAME DECLARATIONS UNDER THE SAME NAMES: 'import', 'namespace', 'open', 'def', 'theorem' AND NOTHING ELSE: no command of the shelf's: FOR A HAND-IN. Each laying: the table of numbers ('.._ren') and one theorem, a field a fact of the dump's own or the kernel's comparison; each contract: ONE APPLICATION.
-/
import Derived.Shelf.Sort.Plain
import Derived.Shelf.Slices.In.SortNone
import Derived.Test.YthjpjekaiflibaaDoorProg
namespace Go.Proofs
open Go.Shelf
def Tryd.lays190_ren : Go.Shelf.Ren := ⟨fun | 190 => 97 | 125 => 120 | 258 => 119 | 128 => 144 | 129 => 145 | 302 => 135 | 303 => 136 | 304 => 137 | 305 => 138 | 306 => 139 | 307 => 140 | 308 => 141 | 309 => 142 | 310 => 143 | 333 => 151 | 329 => 152 | 330 => 153 | 334 => 154 | 335 => 155 | 336 => 156 | 344 => 161 | n => n, fun | 31 => 141 | 9 => 9 | 3 => 3 | 46 => 165 | 0 => 0 | 51 => 187 | 53 => 22 | 4 => 4 | 183 => 217 | 182 => 216 | 131 => 222 | 5 => 5 | 218 => 232 | 222 => 235 | 228 => 242 | 229 => 243 | n => n, fun | n => n⟩
theorem Tryd.lays190 : Go.Proofs.Lays.n190 Tryd.prog Tryd.lays190_ren := {
  mixed := by kernel_rfl
  f125 := Tryd.func120.trans (congrArg some (by kernel_rfl))
  f128 := Tryd.func144.trans (congrArg some (by kernel_rfl))
  f129 := Tryd.func145.trans (congrArg some (by kernel_rfl))
  f190 := Tryd.func97.trans (congrArg some (by kernel_rfl))
  f258 := Tryd.func119.trans (congrArg some (by kernel_rfl))
  f302 := Tryd.func135.trans (congrArg some (by kernel_rfl))
  f303 := Tryd.func136.trans (congrArg some (by kernel_rfl))
  f304 := Tryd.func137.trans (congrArg some (by kernel_rfl))
  f305 := Tryd.func138.trans (congrArg some (by kernel_rfl))
  f306 := Tryd.func139.trans (congrArg some (by kernel_rfl))
  f307 := Tryd.func140.trans (congrArg some (by kernel_rfl))
  f308 := Tryd.func141.trans (congrArg some (by kernel_rfl))
  f309 := Tryd.func142.trans (congrArg some (by kernel_rfl))
  f310 := Tryd.func143.trans (congrArg some (by kernel_rfl))
  f329 := Tryd.func152.trans (congrArg some (by kernel_rfl))
  f330 := Tryd.func153.trans (congrArg some (by kernel_rfl))
  f333 := Tryd.func151.trans (congrArg some (by kernel_rfl))
  f334 := Tryd.func154.trans (congrArg some (by kernel_rfl))
  f335 := Tryd.func155.trans (congrArg some (by kernel_rfl))
  f336 := Tryd.func156.trans (congrArg some (by kernel_rfl))
  f344 := Tryd.func161.trans (congrArg some (by kernel_rfl))
  t0 := Tryd.underlying0
  a0 := Tryd.isAgg0
  z0 := Tryd.sizeOf0
  v0 := Tryd.zeroValue0
  t3 := Tryd.underlying3
  a3 := Tryd.isAgg3
  z3 := Tryd.sizeOf3
  v3 := Tryd.zeroValue3
  t4 := Tryd.underlying4
  a4 := Tryd.isAgg4
  z4 := Tryd.sizeOf4
  v4 := Tryd.zeroValue4
  t5 := Tryd.underlying5
  a5 := Tryd.isAgg5
  z5 := Tryd.sizeOf5
  v5 := Tryd.zeroValue5
  t9 := Tryd.underlying9
  a9 := Tryd.isAgg9
  z9 := Tryd.sizeOf9
  v9 := Tryd.zeroValue9
  t31 := Tryd.underlying141
  a31 := Tryd.isAgg141
  z31 := Tryd.sizeOf141
  v31 := Tryd.zeroValue141
  t46 := Tryd.underlying165
  a46 := Tryd.isAgg165
  z46 := Tryd.sizeOf165
  v46 := Tryd.zeroValue165
  t51 := Tryd.underlying187
  a51 := Tryd.isAgg187
  z51 := Tryd.sizeOf187
  v51 := Tryd.zeroValue187
  t53 := Tryd.underlying22
  a53 := Tryd.isAgg22
  z53 := Tryd.sizeOf22
  v53 := Tryd.zeroValue22
  t131 := Tryd.underlying222
  a131 := Tryd.isAgg222
  z131 := Tryd.sizeOf222
  v131 := Tryd.zeroValue222
  t182 := Tryd.underlying216
  a182 := Tryd.isAgg216
  z182 := Tryd.sizeOf216
  v182 := Tryd.zeroValue216
  t183 := Tryd.underlying217
  a183 := Tryd.isAgg217
  z183 := Tryd.sizeOf217
  v183 := Tryd.zeroValue217
  t218 := Tryd.underlying232
  a218 := Tryd.isAgg232
  z218 := Tryd.sizeOf232
  v218 := Tryd.zeroValue232
  t222 := Tryd.underlying235
  a222 := Tryd.isAgg235
  z222 := Tryd.sizeOf235
  v222 := Tryd.zeroValue235
  t228 := Tryd.underlying242
  a228 := Tryd.isAgg242
  z228 := Tryd.sizeOf242
  v228 := Tryd.zeroValue242
  t229 := Tryd.underlying243
  a229 := Tryd.isAgg243
  z229 := Tryd.sizeOf243
  v229 := Tryd.zeroValue243 }
open Go.Sort Go.RowKit in
theorem Tryd.slices_Sort_string (blk off cap : Nat) (ss : List (List UInt8)) (w : World) (hH : Holds encStr w blk off ss.toArray) (hblk : blk < w.heap.size) (hsz : ss.length < 4611686018427387904) :
    Calls Tryd.prog 97 #[.slice (some ⟨blk, off, none⟩) ss.length cap] w fun e w' =>
      e = .returned (.tuple #[]) ∧ ∃ n os, w' = grow (putRow encStr (Sort.ahead w n) blk off (ss.mergeSort fun x y => decide (x ≤ y)).toArray) os := Any.slices_Sort_string Tryd.lays190 blk off cap ss w hH hblk hsz
open Go.RowKit Go.Sort in
/-- .. and plain. (LAID: no walk: one application.) -/
theorem Tryd.slices_Sort_string_none (p : Option Addr) (cap : Nat) (w : World) :
    Calls Tryd.prog 97 #[.slice p 0 cap] w fun e w' => e = .returned (.tuple #[]) ∧ w' = w := Any.slices_Sort_string_none Tryd.lays190 p cap w
end Go.Proofs
