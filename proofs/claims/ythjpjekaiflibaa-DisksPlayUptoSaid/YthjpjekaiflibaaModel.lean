/- A disk as data: its files, its fuse, whether it is dead; what each call answers and makes of it. No program in sight. -/
import Derived.Test.YthjpjekaiflibaaDisk2
namespace Go.Proofs.Ythjpjekaiflibaa

structure DM where
  files : List File
  fuse : Int
  dead : Bool

def DM.find (M : DM) (s : ByteArray) : Option File := M.files.find? fun f => decide (f.name = s)
def DM.size (M : DM) (s : ByteArray) : Int := ((M.find s).map fun f => (f.bytes.length : Int)).getD 0
/-- The file of that name is another one. -/
def fput (L : List File) (s : ByteArray) (f : File) : List File := L.map fun q => if q.name = s then f else q
/-- A doing that turns a file. -/
def DM.does (M : DM) (s : ByteArray) (size : Int) (made : Bool) (how : File → File) : Int × DM :=
  if askedE M.dead s = 0 then
    match M.find s with
    | none =>
      if made = false then (7, M)
      else if 1048576 < size ∨ 16 ≤ M.files.length then (3, M)
      else if M.fuse = 0 then (17, { M with dead := true })
      else (0, { files := M.files ++ [how { name := s, bytes := [], sure := 0 }], fuse := burnt M.fuse, dead := M.dead })
    | some f =>
      if 1048576 < size then (3, M)
      else if M.fuse = 0 then (17, { M with dead := true })
      else (0, { files := fput M.files s (how f), fuse := burnt M.fuse, dead := M.dead })
  else (askedE M.dead s, M)
def DM.add (M : DM) (s : ByteArray) (bs : List UInt8) : Int × DM := M.does s (M.size s + bs.length) true fun f => { f with bytes := f.bytes ++ bs }
def DM.sure (M : DM) (s : ByteArray) : Int × DM := M.does s 0 false fun f => { f with sure := f.bytes.length }
def DM.put (M : DM) (s : ByteArray) (bs : List UInt8) : Int × DM := M.does s bs.length true fun f => { f with bytes := bs, sure := bs.length }
def DM.drop (M : DM) (s : ByteArray) : Int × DM :=
  if askedE M.dead s = 0 then
    match M.find s with
    | none => (7, M)
    | some _ =>
      if M.fuse = 0 then (17, { M with dead := true })
      else (0, { files := M.files.filter fun f => decide (f.name ≠ s), fuse := burnt M.fuse, dead := M.dead })
  else (askedE M.dead s, M)
def DM.read (M : DM) (s : ByteArray) : List UInt8 × Int :=
  if askedE M.dead s = 0 then
    match M.find s with
    | none => ([], 7)
    | some f => (f.bytes, 0)
  else ([], askedE M.dead s)
def DM.setFuse (M : DM) (n : Int) : DM := { M with fuse := max 0 n }
end Go.Proofs.Ythjpjekaiflibaa
