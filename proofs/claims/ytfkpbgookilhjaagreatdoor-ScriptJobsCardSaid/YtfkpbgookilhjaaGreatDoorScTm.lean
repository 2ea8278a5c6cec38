/- What is told, and its bytes: plain. -/
import Derived.Test.YtfkpbgookilhjaaGreatDoorScM
namespace Go.Proofs.YtfkpbgookilhjaaGreatDoor
set_option linter.unusedSimpArgs false
set_option linter.unusedVariables false

structure SeatM where
  path : List UInt8
  slide : Nat
  deps : List Int
structure PieceM where
  at_ : Nat
  prot : Int
  bytes : List UInt8
structure InitM where
  image : Int
  at_ : Nat
structure ToldM where
  phase : Int
  img : List UInt8
  err : Int
  seats : List SeatM
  mem : List PieceM
  inits : List InitM
  entry : Nat

/-- A number in 16 bits, as it is laid. -/
def two (d : Int) : Nat := (d % 65536).toNat
def SeatM.enc (s : SeatM) : List UInt8 := nmB s.path ++ lowB s.slide 8 ++ lowB s.deps.length 2 ++ s.deps.flatMap (fun d => lowB (two d) 2)
def PieceM.enc (p : PieceM) : List UInt8 := lowB p.at_ 8 ++ lowB p.prot.toNat 1 ++ blB p.bytes
def InitM.enc (x : InitM) : List UInt8 := lowB x.image.toNat 2 ++ lowB x.at_ 8
def faultB (ph er : Int) : List UInt8 := [70, UInt8.ofNat (ph % 256).toNat, UInt8.ofNat (er % 256).toNat]
def ToldM.enc (t : ToldM) : List UInt8 :=
  if t.err = 0 then
    [76] ++ lowB t.seats.length 2 ++ t.seats.flatMap SeatM.enc ++ lowB t.mem.length 4 ++ t.mem.flatMap PieceM.enc ++ lowB t.inits.length 4 ++ t.inits.flatMap InitM.enc ++ lowB t.entry 8
  else faultB t.phase t.err ++ nmB t.img

/-- May it be told? -/
def inB2 (n least most : Int) : Bool := decide (least ≤ n) && decide (n ≤ most)
def badD (d : Int) : Bool := !inB2 d (-1) 65534
def badS (s : SeatM) : Bool := decide (65535 < s.path.length) || decide (65535 < s.deps.length) || s.deps.any badD
def badP (p : PieceM) : Bool := !inB2 p.prot 0 255 || decide (67108864 < p.bytes.length)
def badI (x : InitM) : Bool := !inB2 x.image 0 65535
def sizS (s : SeatM) : Nat := 12 + s.path.length + 2 * s.deps.length
def sizP (p : PieceM) : Nat := 13 + p.bytes.length
def allT (t : ToldM) : Nat := 19 + 10 * t.inits.length + (t.seats.map sizS).sum + (t.mem.map sizP).sum
def mayFault (t : ToldM) : Bool := decide (t.seats.length + t.mem.length + t.inits.length = 0) && decide (t.entry = 0) && inB2 t.phase 0 255 && inB2 t.err 1 255 && decide (t.img.length ≤ 65535)
def mayLinked (t : ToldM) : Bool := decide (t.phase = 0) && t.img.isEmpty && decide (t.seats.length ≤ 65535) && decide (t.mem.length ≤ 65535) && decide (t.inits.length ≤ 1000000) && !t.seats.any badS && !t.mem.any badP && decide (allT t ≤ 67108864) && !t.inits.any badI
def mayT (t : ToldM) : Bool := if t.err = 0 then mayLinked t else mayFault t
end Go.Proofs.YtfkpbgookilhjaaGreatDoor
