/- What is told, as it came in: its value, how it reads. Plain. -/
import Derived.Test.YtfkpbgookilhjaaGreatDoorZScY
namespace Go.Proofs.YtfkpbgookilhjaaGreatDoor
set_option linter.unusedSimpArgs false
set_option linter.unusedVariables false
open Go.RowKit

def intC (d : Int) : List Value := [.int .i64 d]
abbrev IntsAt (w : World) (v : Value) (l : List Int) : Prop := RowsAt intC 1 w v l
theorem IntsAt.cell {w : World} {a : Option Addr} {n cap : Nat} {l : List Int} (h : IntsAt w (.slice a n cap) l) {i : Nat} {x : Int} (hx : l[i]? = some x) :
    ∃ g off, a = some ⟨g, off, none⟩ ∧ w.cell? ⟨g, off + i, none⟩ = some (.int .i64 x) := by
  obtain ⟨g, off, rfl, hc⟩ := RowsAt.at h hx
  exact ⟨g, off, rfl, by have := hc 0 _ rfl; rwa [Nat.mul_one, Nat.add_zero] at this⟩

structure SeatV where
  path : List UInt8
  slide : Nat
  p : Option Addr
  cap : Nat
  deps : List Int
deriving Inhabited
def SeatV.cells (s : SeatV) : List Value := [.string (mkS s.path), .int .u64 (s.slide : Int), .slice s.p s.deps.length s.cap]
def SeatV.m (s : SeatV) : SeatM := ⟨s.path, s.slide, s.deps⟩
structure PieceV where
  at_ : Nat
  prot : Int
  p : Option Addr
  n : Nat
  cap : Nat
  bytes : List UInt8
deriving Inhabited
def PieceV.cells (s : PieceV) : List Value := [.int .u64 (s.at_ : Int), .int .i64 s.prot, .slice s.p s.n s.cap]
def PieceV.m (s : PieceV) : PieceM := ⟨s.at_, s.prot, s.bytes⟩
def InitM.cells (x : InitM) : List Value := [.int .i64 x.image, .int .u64 (x.at_ : Int)]
instance : Inhabited InitM := ⟨⟨0, 0⟩⟩
theorem seatsLen (s : SeatV) : s.cells.length = 3 := rfl
theorem piecesLen (s : PieceV) : s.cells.length = 3 := rfl
theorem initsLen (s : InitM) : s.cells.length = 2 := rfl

abbrev SeatsAt (w : World) (v : Value) (l : List SeatV) : Prop := RowsAt SeatV.cells 3 w v l
abbrev PiecesAt (w : World) (v : Value) (l : List PieceV) : Prop := RowsAt PieceV.cells 3 w v l
abbrev InitsAt (w : World) (v : Value) (l : List InitM) : Prop := RowsAt InitM.cells 2 w v l
theorem SeatsAt.cell {w : World} {a : Option Addr} {n cap : Nat} {l : List SeatV} (h : SeatsAt w (.slice a n cap) l) {i : Nat} {x : SeatV} (hx : l[i]? = some x) :
    ∃ g off, a = some ⟨g, off, none⟩ ∧ w.cell? ⟨g, off + i * 3, none⟩ = some (.string (mkS x.path)) ∧ w.cell? ⟨g, off + i * 3 + 1, none⟩ = some (.int .u64 (x.slide : Int)) ∧ w.cell? ⟨g, off + i * 3 + 2, none⟩ = some (.slice x.p x.deps.length x.cap) := by
  obtain ⟨g, off, rfl, hc⟩ := RowsAt.at h hx
  exact ⟨g, off, rfl, hc 0 _ rfl, hc 1 _ rfl, hc 2 _ rfl⟩
theorem PiecesAt.cell {w : World} {a : Option Addr} {n cap : Nat} {l : List PieceV} (h : PiecesAt w (.slice a n cap) l) {i : Nat} {x : PieceV} (hx : l[i]? = some x) :
    ∃ g off, a = some ⟨g, off, none⟩ ∧ w.cell? ⟨g, off + i * 3, none⟩ = some (.int .u64 (x.at_ : Int)) ∧ w.cell? ⟨g, off + i * 3 + 1, none⟩ = some (.int .i64 x.prot) ∧ w.cell? ⟨g, off + i * 3 + 2, none⟩ = some (.slice x.p x.n x.cap) := by
  obtain ⟨g, off, rfl, hc⟩ := RowsAt.at h hx
  exact ⟨g, off, rfl, hc 0 _ rfl, hc 1 _ rfl, hc 2 _ rfl⟩
theorem InitsAt.cell {w : World} {a : Option Addr} {n cap : Nat} {l : List InitM} (h : InitsAt w (.slice a n cap) l) {i : Nat} {x : InitM} (hx : l[i]? = some x) :
    ∃ g off, a = some ⟨g, off, none⟩ ∧ w.cell? ⟨g, off + i * 2, none⟩ = some (.int .i64 x.image) ∧ w.cell? ⟨g, off + i * 2 + 1, none⟩ = some (.int .u64 (x.at_ : Int)) := by
  obtain ⟨g, off, rfl, hc⟩ := RowsAt.at h hx
  exact ⟨g, off, rfl, hc 0 _ rfl, hc 1 _ rfl⟩

/-- What is told: the header, the lists. -/
structure ToldV where
  ph : Int
  img : List UInt8
  er : Int
  sp : Option Addr
  sc : Nat
  seats : List SeatV
  mp : Option Addr
  mc : Nat
  mem : List PieceV
  np : Option Addr
  nc : Nat
  inits : List InitM
  entry : Nat
def ToldV.h (t : ToldV) : ToldH := ⟨t.ph, t.img, t.er, t.sp, t.seats.length, t.sc, t.mp, t.mem.length, t.mc, t.np, t.inits.length, t.nc, t.entry⟩
def ToldV.m (t : ToldV) : ToldM := ⟨t.ph, t.img, t.er, t.seats.map SeatV.m, t.mem.map PieceV.m, t.inits, t.entry⟩
structure ToldAt (w : World) (t : ToldV) : Prop where
  seats : SeatsAt w (.slice t.sp t.seats.length t.sc) t.seats
  deps : ∀ s ∈ t.seats, IntsAt w (.slice s.p s.deps.length s.cap) s.deps
  slides : ∀ s ∈ t.seats, s.slide < 2 ^ 64
  mem : PiecesAt w (.slice t.mp t.mem.length t.mc) t.mem
  bytes : ∀ s ∈ t.mem, BigBS w s.p s.n s.cap s.bytes
  ats : ∀ s ∈ t.mem, s.at_ < 2 ^ 64
  inits : InitsAt w (.slice t.np t.inits.length t.nc) t.inits
  begins : ∀ x ∈ t.inits, x.at_ < 2 ^ 64
  entry : t.entry < 2 ^ 64
theorem ToldAt.below {w w' : World} {t : ToldV} (h : ToldAt w t) (hb : Below w.heap.size w w') : ToldAt w' t :=
  ⟨RowsAt.below h.seats hb, fun s hs => RowsAt.below (h.deps s hs) hb, h.slides, RowsAt.below h.mem hb, fun s hs => (h.bytes s hs).below hb, h.ats, RowsAt.below h.inits hb, h.begins, h.entry⟩

/-- The tests over what came in. -/
def badSV (s : SeatV) : Bool := decide (65535 < s.path.length) || decide (65535 < s.deps.length) || s.deps.any badD
def badPV (p : PieceV) : Bool := !inB2 p.prot 0 255 || decide (67108864 < p.n)
def sizSV (s : SeatV) : Nat := 12 + s.path.length + 2 * s.deps.length
def sizPV (p : PieceV) : Nat := 13 + p.n
end Go.Proofs.YtfkpbgookilhjaaGreatDoor
