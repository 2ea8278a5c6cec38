/- script.MayTell of what is linked. -/
import Derived.Test.YtfkpbgookilhjaaGreatDoorZScTi
import Derived.Test.YtfkpbgookilhjaaGreatDoorZScD
namespace Go.Proofs.YtfkpbgookilhjaaGreatDoor
set_option linter.unusedSimpArgs false
set_option linter.unusedVariables false
open Go.RowKit

def headT (t : ToldV) : Bool := decide (t.ph = 0) && t.img.isEmpty && decide (t.seats.length ≤ 65535) && decide (t.mem.length ≤ 65535) && decide (t.inits.length ≤ 1000000)
def sumS (l : List SeatV) : Nat := (l.map sizSV).sum
def sumP (l : List PieceV) : Nat := (l.map sizPV).sum
def allV (t : ToldV) : Nat := 19 + 10 * t.inits.length + sumS t.seats + sumP t.mem
def mayLV (t : ToldV) : Bool := headT t && !t.seats.any badSV && !t.mem.any badPV && decide (allV t ≤ 67108864) && !t.inits.any badI

theorem sum_snoc {α : Type} (f : α → Nat) {l : List α} {k : Nat} {s : α} (hs : l[k]? = some s) : ((l.take (k + 1)).map f).sum = ((l.take k).map f).sum + f s := by
  rw [List.take_add_one, hs]
  simp
theorem sum_le {α : Type} (f : α → Nat) (M : Nat) : ∀ l : List α, (∀ x ∈ l, f x ≤ M) → (l.map f).sum ≤ l.length * M
  | [], _ => by simp
  | x :: l, h => by
    have h1 := h x (by simp)
    have h2 := sum_le f M l (fun y hy => h y (by simp [hy]))
    rw [List.map_cons, List.sum_cons, List.length_cons, Nat.add_mul]
    omega
theorem sumS_le {l : List SeatV} (h : l.any badSV = false) (hl : l.length ≤ 65535) : sumS l ≤ 20000000000 := by
  have h1 := sum_le sizSV 196620 l (fun x hx => by
    have := List.any_eq_false.1 h x hx
    unfold badSV at this
    simp only [Bool.or_eq_true, decide_eq_true_eq, not_or] at this
    unfold sizSV; omega)
  unfold sumS
  have h2 : l.length * 196620 ≤ 65535 * 196620 := Nat.mul_le_mul_right _ hl
  omega
theorem sumP_le {l : List PieceV} (h : l.any badPV = false) (hl : l.length ≤ 65535) : sumP l ≤ 5000000000000 := by
  have h1 := sum_le sizPV 67108877 l (fun x hx => by
    have := List.any_eq_false.1 h x hx
    unfold badPV at this
    simp only [Bool.or_eq_true, decide_eq_true_eq, not_or] at this
    unfold sizPV; omega)
  unfold sumP
  have h2 : l.length * 67108877 ≤ 65535 * 67108877 := Nat.mul_le_mul_right _ hl
  omega

theorem dec_lt {a b : Nat} (h : a < b) : decide ((a : Int) < (b : Int)) = true ∧ decide (a < b) = true := ⟨decide_eq_true (by omega), decide_eq_true h⟩
theorem dec_ge {a b : Nat} (h : ¬ a < b) : decide ((a : Int) < (b : Int)) = false ∧ decide (a < b) = false := ⟨decide_eq_false (by omega), decide_eq_false h⟩

set_option maxHeartbeats 4000000 in
theorem tl_may_no (w : World) (t : ToldV) (h : ToldAt w t) (her : t.er = 0) (hno0 : ¬ (t.ph = 0 ∧ t.img = [] ∧ ¬ 65535 < t.seats.length ∧ ¬ 65535 < t.mem.length ∧ ¬ 1000000 < t.inits.length)) :
    Calls Tryz.prog 14 #[.agg t.h.cells] w fun e w' => e = .returned (.bool (mayLV t)) ∧ Below w.heap.size w w' := by
  have HI := hid (And.intro (TlIn.new w t.h) h)
  clear h
  obtain ⟨hd, hhd⟩ : ∃ b, b = headT t := ⟨_, rfl⟩
  obtain ⟨b1, hb1⟩ : ∃ b, b = t.seats.any badSV := ⟨_, rfl⟩
  obtain ⟨b2, hb2⟩ : ∃ b, b = t.mem.any badPV := ⟨_, rfl⟩
  obtain ⟨b3, hb3⟩ : ∃ b, b = t.inits.any badI := ⟨_, rfl⟩
  obtain ⟨S, hS⟩ : ∃ S, S = allV t := ⟨_, rfl⟩
  unfold mayLV
  rw [← hhd, ← hb1, ← hb2, ← hb3, ← hS]
  have HB := hid (And.intro hhd (And.intro hb1 (And.intro hb2 (And.intro hb3 hS))))
  clear hhd hb1 hb2 hb3 hS
  show Calls Tryz.prog 14 #[.agg #[.int .i64 t.ph, .string (mkS t.img), .int .i64 t.er, .slice t.sp t.seats.length t.sc, .slice t.mp t.mem.length t.mc, .slice t.np t.inits.length t.nc, .int .u64 (t.entry : Int)]] w _
  obtain ⟨x0, x1, x2, x3, x4, x5, x6⟩ := HI.out.1.box.at
  have x2 : _ = some (Value.int .i64 t.er) := x2
  rw [her] at x2 ⊢
  clear her
  by_cases hp : t.ph = 0
  case neg =>
    have hno : hd = false := by rw [HB.out.1]; unfold headT; rw [decide_eq_false hp]; rfl
    rw [hno]
    clear hno
    go_enter Tryz.func14, Tryz.ntmps14
    go_wp2_with fail
    go_ret
    exact ⟨by simp, (Below.refl _ _).alloc (Nat.le_refl _) _⟩
  by_cases hm : t.img = []
  case neg =>
    have hno : hd = false := by rw [HB.out.1]; unfold headT; cases hq : t.img with
      | nil => exact absurd hq hm
      | cons a l => simp
    rw [hno]
    clear hno
    go_enter Tryz.func14, Tryz.ntmps14
    go_wp2_with fail
    go_ret
    exact ⟨by simp, (Below.refl _ _).alloc (Nat.le_refl _) _⟩
  by_cases h1 : 65535 < t.seats.length
  · obtain ⟨d1, d2⟩ := dec_lt h1
    have hno : hd = false := by rw [HB.out.1]; unfold headT; rw [decide_eq_false (by omega : ¬ t.seats.length ≤ 65535)]; simp
    rw [hno]
    clear hno
    go_enter Tryz.func14, Tryz.ntmps14
    go_wp2_with fail
    go_ret
    exact ⟨by simp, (Below.refl _ _).alloc (Nat.le_refl _) _⟩
  obtain ⟨d1, d2⟩ := dec_ge h1
  by_cases h2 : 65535 < t.mem.length
  · obtain ⟨d3, d4⟩ := dec_lt h2
    have hno : hd = false := by rw [HB.out.1]; unfold headT; rw [decide_eq_false (by omega : ¬ t.mem.length ≤ 65535)]; simp
    rw [hno]
    clear hno
    go_enter Tryz.func14, Tryz.ntmps14
    go_wp2_with fail
    go_ret
    exact ⟨by simp, (Below.refl _ _).alloc (Nat.le_refl _) _⟩
  obtain ⟨d3, d4⟩ := dec_ge h2
  by_cases h3 : 1000000 < t.inits.length
  · obtain ⟨d5, d6⟩ := dec_lt h3
    have hno : hd = false := by rw [HB.out.1]; unfold headT; rw [decide_eq_false (by omega : ¬ t.inits.length ≤ 1000000)]; simp
    rw [hno]
    clear hno
    go_enter Tryz.func14, Tryz.ntmps14
    go_wp2_with fail
    go_ret
    exact ⟨by simp, (Below.refl _ _).alloc (Nat.le_refl _) _⟩
  obtain ⟨d5, d6⟩ := dec_ge h3
  exact absurd ⟨hp, hm, h1, h2, h3⟩ hno0

end Go.Proofs.YtfkpbgookilhjaaGreatDoor

namespace Go.Proofs.YtfkpbgookilhjaaGreatDoor
set_option linter.unusedSimpArgs false
set_option linter.unusedVariables false
open Go.RowKit

/-- What stands while the lists are gone over. -/
structure MtIn (w W : World) (t : ToldV) : Prop where
  i : TlIn w W w.heap.size t.h
  at_ : ToldAt W t
theorem MtIn.below {w W W' : World} {t : ToldV} (h : MtIn w W t) (hb : Below W.heap.size W W') : MtIn w W' t := ⟨h.i.below hb, h.at_.below hb⟩

theorem MtIn.xs {w W : World} {sp : Option Addr} {sc : Nat} {seats : List SeatV} {mp : Option Addr} {mc : Nat} {mem : List PieceV} {np : Option Addr} {nc : Nat} {inits : List InitM} {entry : Nat} (h : MtIn w W ⟨0, [], 0, sp, sc, seats, mp, mc, mem, np, nc, inits, entry⟩) :
    W.cell? ⟨w.heap.size, 0, none⟩ = some (.int .i64 0) ∧ W.cell? ⟨w.heap.size, 1, none⟩ = some (.string (mkS [])) ∧ W.cell? ⟨w.heap.size, 2, none⟩ = some (.int .i64 0) ∧ W.cell? ⟨w.heap.size, 3, none⟩ = some (.slice sp seats.length sc) ∧ W.cell? ⟨w.heap.size, 4, none⟩ = some (.slice mp mem.length mc) ∧ W.cell? ⟨w.heap.size, 5, none⟩ = some (.slice np inits.length nc) ∧ W.cell? ⟨w.heap.size, 6, none⟩ = some (.int .u64 (entry : Int)) := h.i.box.at

set_option maxHeartbeats 4000000 in
set_option maxRecDepth 8000 in
theorem tl_may_yes (w : World) (sp : Option Addr) (sc : Nat) (seats : List SeatV) (mp : Option Addr) (mc : Nat) (mem : List PieceV) (np : Option Addr) (nc : Nat) (inits : List InitM) (entry : Nat) (h : ToldAt w ⟨0, [], 0, sp, sc, seats, mp, mc, mem, np, nc, inits, entry⟩)
    (h1 : ¬ 65535 < seats.length) (h2 : ¬ 65535 < mem.length) (h3 : ¬ 1000000 < inits.length) :
    Calls Tryz.prog 14 #[.agg #[.int .i64 0, .string (mkS []), .int .i64 0, .slice sp seats.length sc, .slice mp mem.length mc, .slice np inits.length nc, .int .u64 (entry : Int)]] w fun e w' => e = .returned (.bool (!seats.any badSV && !mem.any badPV && decide (19 + 10 * inits.length + sumS seats + sumP mem ≤ 67108864) && !inits.any badI)) ∧ Below w.heap.size w w' := by
  obtain ⟨d1, d2⟩ := dec_ge h1
  obtain ⟨d3, d4⟩ := dec_ge h2
  obtain ⟨d5, d6⟩ := dec_ge h3
  have hw1 : IntKind.i64.wrap (10 * (inits.length : Int)) = 10 * (inits.length : Int) := IntWalk.i64_in _ (by omega)
  have hw2 : IntKind.i64.wrap (19 + 10 * (inits.length : Int)) = 19 + 10 * (inits.length : Int) := IntWalk.i64_in _ (by omega)
  obtain ⟨b1, hb1⟩ : ∃ b, b = seats.any badSV := ⟨_, rfl⟩
  obtain ⟨b2, hb2⟩ : ∃ b, b = mem.any badPV := ⟨_, rfl⟩
  obtain ⟨b3, hb3⟩ : ∃ b, b = inits.any badI := ⟨_, rfl⟩
  obtain ⟨W0, hW0⟩ : ∃ W0, W0 = w.alloc (.cells #[.int .i64 0, .string (mkS []), .int .i64 0, .slice sp seats.length sc, .slice mp mem.length mc, .slice np inits.length nc, .int .u64 (entry : Int)] 49) := ⟨_, rfl⟩
  have hM : MtIn w W0 ⟨0, [], 0, sp, sc, seats, mp, mc, mem, np, nc, inits, entry⟩ := by
    have hb : Below w.heap.size w W0 := by rw [hW0]; exact (Below.refl _ _).alloc (Nat.le_refl _) _
    exact ⟨⟨by rw [hW0]; exact heap_alloc_new w _, hb⟩, h.below hb⟩
  obtain ⟨D, hD⟩ : ∃ D, D = decide (19 + 10 * inits.length + sumS seats + sumP mem ≤ 67108864) := ⟨_, rfl⟩
  rw [← hb1, ← hb2, ← hb3, ← hD]
  have H := hid (And.intro hM (And.intro hb1 (And.intro hb2 (And.intro hb3 hW0.symm))))
  have HD := hid hD
  clear h hM hb1 hb2 hb3 hW0 hD
  obtain ⟨x0, x1, x2, x3, x4, x5, x6⟩ := H.out.1.xs
  go_enter Tryz.func14, Tryz.ntmps14
  go_upto_region 1 with fail
  rw [H.out.2.2.2.2]
  go_wp2_with fail
  go_loopw [3, 63] (fun a i wr => ∃ k : Nat, k ≤ seats.length ∧ i = .int .i64 (k : Int) ∧ (∃ s : Nat, s = 19 + 10 * inits.length + sumS (seats.take k) ∧ a = .int .i64 (s : Int)) ∧ (seats.take k).any badSV = false ∧ MtIn w wr ⟨0, [], 0, sp, sc, seats, mp, mc, mem, np, nc, inits, entry⟩) (fun _ i _ => seats.length - (intOf i).toNat)
  case atStart => exact ⟨0, Nat.zero_le _, rfl, ⟨_, rfl, by simp [sumS]⟩, rfl, H.out.1⟩
  case round =>
    clear x0 x1 x2 x3 x4 x5 x6
    obtain ⟨k, hk, rfl, ⟨S, hS, rfl⟩, hany, hi⟩ := hrel
    obtain ⟨x0, x1, x2, x3, x4, x5, x6⟩ := hi.xs
    by_cases hlt : k < seats.length
    · obtain ⟨x, hx⟩ : ∃ x, seats[k]? = some x := ⟨_, List.getElem?_eq_getElem hlt⟩
      obtain ⟨g, off, rfl, y0, y1, y2⟩ := SeatsAt.cell hi.at_.seats hx
      have hdep := hi.at_.deps x (List.mem_of_getElem? hx)
      have hSb : sumS (seats.take k) ≤ 20000000000 := sumS_le hany (by rw [List.length_take]; omega)
      have hsn : sumS (seats.take (k + 1)) = sumS (seats.take k) + sizSV x := sum_snoc sizSV hx
      obtain ⟨pa, sl, dp, dc, ds⟩ := x
      dsimp only at y0 y1 y2 hdep
      have hal : Below wr.heap.size wr (wr.alloc (.cells #[.string (mkS pa), .int .u64 (sl : Int), .slice dp ds.length dc] 90)) := (Below.refl _ _).alloc (Nat.le_refl _) _
      have hrow := heap_alloc_new wr (.cells #[.string (mkS pa), .int .u64 (sl : Int), .slice dp ds.length dc] 90)
      by_cases c1 : 65535 < pa.length
      · obtain ⟨e1, e2⟩ := dec_lt c1
        have hbad : badSV ⟨pa, sl, dp, dc, ds⟩ = true := by unfold badSV; rw [e2]; rfl
        have hno : b1 = true := by rw [H.out.2.1]; exact any_one hx hbad
        have Hi := hid (hi.below hal)
        clear hi hx hany hdep hSb hsn hS hal hrow hbad
        go_wp2_with fail
        go_ret
        exact ⟨by first | (rw [hno]; simp; done) | (simp; done), Hi.out.i.bel⟩
      · obtain ⟨e1, e2⟩ := dec_ge c1
        by_cases c2 : 65535 < ds.length
        · obtain ⟨e3, e4⟩ := dec_lt c2
          have hbad : badSV ⟨pa, sl, dp, dc, ds⟩ = true := by unfold badSV; rw [e2, e4]; rfl
          have hno : b1 = true := by rw [H.out.2.1]; exact any_one hx hbad
          have Hi := hid (hi.below hal)
          clear hi hx hany hdep hSb hsn hS hal hrow hbad
          go_wp2_with fail
          go_ret
          exact ⟨by first | (rw [hno]; simp; done) | (simp; done), Hi.out.i.bel⟩
        · obtain ⟨e3, e4⟩ := dec_ge c2
          obtain ⟨bq, hbq⟩ : ∃ bq, bq = ds.any badD := ⟨_, rfl⟩
          have HC := hid (by have := any_ints _ dp dc ds (RowsAt.below hdep hal); rwa [← hbq] at this)
          have hbad : badSV ⟨pa, sl, dp, dc, ds⟩ = bq := by unfold badSV; rw [e2, e4, hbq]; rfl
          have Hi := hid (And.intro (hi.below hal) (And.intro hrow (And.intro hx (And.intro hany (And.intro hsn (And.intro hbad (And.intro hS hSb)))))))
          clear hi hx hany hdep hsn hS hal hrow hbad hbq hSb
          go_wp2_with fail
          refine (HC.out).mono ?_
          rintro e w1 ⟨rfl, hb1⟩
          have hi1 := Hi.out.1.below hb1
          have hrow1 := (hb1.block wr.heap.size (by simp)).trans Hi.out.2.1
          clear hb1 x0 x1 x2 x3 x4 x5 x6 y0 y1 y2
          cases bq with
          | true =>
            have hno : b1 = true := by rw [H.out.2.1]; exact any_one Hi.out.2.2.1 Hi.out.2.2.2.2.2.1
            have Hj := hid hi1
            clear hi1
            go_wp2_with fail
            go_ret
            exact ⟨by first | (rw [hno]; simp; done) | (simp; done), Hj.out.i.bel⟩
          | false =>
            have y0 : w1.cell? ⟨wr.heap.size, 0, none⟩ = some (.string (mkS pa)) := cell_of_row w1 _ 0 _ _ _ hrow1
            have y2 : w1.cell? ⟨wr.heap.size, 2, none⟩ = some (.slice dp ds.length dc) := cell_of_row w1 _ 2 _ _ _ hrow1
            have hSb := Hi.out.2.2.2.2.2.2.2
            have hS' : S ≤ 20010000019 := by have := Hi.out.2.2.2.2.2.2.1; omega
            have hw3 : IntKind.i64.wrap (12 + (pa.length : Int)) = 12 + (pa.length : Int) := IntWalk.i64_in _ (by omega)
            have hw4 : IntKind.i64.wrap (2 * (ds.length : Int)) = 2 * (ds.length : Int) := IntWalk.i64_in _ (by omega)
            have hw5 : IntKind.i64.wrap (12 + (pa.length : Int) + 2 * (ds.length : Int)) = 12 + (pa.length : Int) + 2 * (ds.length : Int) := IntWalk.i64_in _ (by omega)
            have hw6 : IntKind.i64.wrap ((S : Int) + (12 + (pa.length : Int) + 2 * (ds.length : Int))) = (S : Int) + (12 + (pa.length : Int) + 2 * (ds.length : Int)) := IntWalk.i64_in _ (by omega)
            have Hj := hid hi1
            clear hi1 hrow1 hSb
            go_wp2_with fail
            refine ⟨⟨k + 1, by omega, by go_num, ⟨S + sizSV ⟨pa, sl, dp, dc, ds⟩, ?_, ?_⟩, any_more Hi.out.2.2.1 Hi.out.2.2.2.1 Hi.out.2.2.2.2.2.1, Hj.out⟩, by simp [intOf]; omega⟩
            · rw [Hi.out.2.2.2.2.1, Hi.out.2.2.2.2.2.2.1]; omega
            · unfold sizSV; first | (simp; done) | (simp; omega)
    · have hke : k = seats.length := by omega
      subst hke
      rw [List.take_length] at hS hany
      have hno1 : b1 = false := by rw [H.out.2.1]; exact hany
      have hSb : S ≤ 20010000019 := by have := sumS_le hany (by omega); omega
      have Hi := hid (And.intro hi (And.intro hS hno1))
      clear hi hS hno1 hany
      go_wp2_with fail
      go_loopw [3, 97] (fun a i wr => ∃ k : Nat, k ≤ mem.length ∧ i = .int .i64 (k : Int) ∧ (∃ s : Nat, s = S + sumP (mem.take k) ∧ a = .int .i64 (s : Int)) ∧ (mem.take k).any badPV = false ∧ MtIn w wr ⟨0, [], 0, sp, sc, seats, mp, mc, mem, np, nc, inits, entry⟩) (fun _ i _ => mem.length - (intOf i).toNat)
      case atStart => exact ⟨0, Nat.zero_le _, rfl, ⟨_, rfl, by simp [sumP]⟩, rfl, Hi.out.1⟩
      case round =>
        clear x0 x1 x2 x3 x4 x5 x6
        obtain ⟨q, hq, rfl, ⟨T, hT, rfl⟩, hany, hi⟩ := hrel
        obtain ⟨x0, x1, x2, x3, x4, x5, x6⟩ := hi.xs
        by_cases hlt2 : q < mem.length
        · obtain ⟨x, hx⟩ : ∃ x, mem[q]? = some x := ⟨_, List.getElem?_eq_getElem hlt2⟩
          obtain ⟨g, off, rfl, y0, y1, y2⟩ := PiecesAt.cell hi.at_.mem hx
          have hTb : sumP (mem.take q) ≤ 5000000000000 := sumP_le hany (by rw [List.length_take]; omega)
          have hsn : sumP (mem.take (q + 1)) = sumP (mem.take q) + sizPV x := sum_snoc sizPV hx
          obtain ⟨aa, pr, pp, pn, pc, bs⟩ := x
          dsimp only at y0 y1 y2
          have hal : Below wr.heap.size wr (wr.alloc (.cells #[.int .u64 (aa : Int), .int .i64 pr, .slice pp pn pc] 41)) := (Below.refl _ _).alloc (Nat.le_refl _) _
          have hrow := heap_alloc_new wr (.cells #[.int .u64 (aa : Int), .int .i64 pr, .slice pp pn pc] 41)
          obtain ⟨bq, hbq⟩ : ∃ bq, bq = inB2 pr 0 255 := ⟨_, rfl⟩
          have HC := hid (fun W => by have := tl_within W pr 0 255; rwa [← hbq] at this)
          have hbad : badPV ⟨aa, pr, pp, pn, pc, bs⟩ = (!bq || decide (67108864 < pn)) := by unfold badPV; rw [hbq]
          have Hj := hid (And.intro (hi.below hal) (And.intro hrow (And.intro hx (And.intro hany (And.intro hsn (And.intro hbad (And.intro hT hTb)))))))
          clear hi hx hany hsn hT hal hrow hbad hbq hTb
          go_wp2_with fail
          refine (HC.out _).mono ?_
          rintro e w1 ⟨rfl, hb1⟩
          have hi1 := Hj.out.1.below hb1
          have hrow1 := (hb1.block wr.heap.size (by simp)).trans Hj.out.2.1
          clear hb1 x0 x1 x2 x3 x4 x5 x6 y0 y1 y2
          have y2 : w1.cell? ⟨wr.heap.size, 2, none⟩ = some (.slice pp pn pc) := cell_of_row w1 _ 2 _ _ _ hrow1
          clear hrow1
          cases bq with
          | false =>
            have hno : b2 = true := by rw [H.out.2.2.1]; exact any_one Hj.out.2.2.1 (by rw [Hj.out.2.2.2.2.2.1]; rfl)
            have Hk := hid hi1
            clear hi1
            go_wp2_with fail
            go_ret
            exact ⟨by first | (rw [hno]; simp; done) | (simp; done), Hk.out.i.bel⟩
          | true =>
            by_cases c1 : 67108864 < pn
            · obtain ⟨e1, e2⟩ := dec_lt c1
              have hno : b2 = true := by rw [H.out.2.2.1]; exact any_one Hj.out.2.2.1 (by rw [Hj.out.2.2.2.2.2.1, e2]; rfl)
              have Hk := hid hi1
              clear hi1
              go_wp2_with fail
              go_ret
              exact ⟨by first | (rw [hno]; simp; done) | (simp; done), Hk.out.i.bel⟩
            · obtain ⟨e1, e2⟩ := dec_ge c1
              have hbf : badPV ⟨aa, pr, pp, pn, pc, bs⟩ = false := by rw [Hj.out.2.2.2.2.2.1, e2]; rfl
              have hT' : T ≤ 6000000000000 := by have := Hj.out.2.2.2.2.2.2.1; have := Hj.out.2.2.2.2.2.2.2; omega
              have hw3 : IntKind.i64.wrap (13 + (pn : Int)) = 13 + (pn : Int) := IntWalk.i64_in _ (by omega)
              have hw4 : IntKind.i64.wrap ((T : Int) + (13 + (pn : Int))) = (T : Int) + (13 + (pn : Int)) := IntWalk.i64_in _ (by omega)
              have Hk := hid hi1
              have Hb := hid hbf
              clear hi1 hbf
              go_wp2_with fail
              refine ⟨⟨q + 1, by omega, by go_num, ⟨T + sizPV ⟨aa, pr, pp, pn, pc, bs⟩, ?_, ?_⟩, any_more Hj.out.2.2.1 Hj.out.2.2.2.1 Hb.out, Hk.out⟩, by simp [intOf]; omega⟩
              · rw [Hj.out.2.2.2.2.1, Hj.out.2.2.2.2.2.2.1]; omega
              · unfold sizPV; first | (simp; done) | (simp; omega)
        · have hqe : q = mem.length := by omega
          subst hqe
          rw [List.take_length] at hT hany
          have hno2 : b2 = false := by rw [H.out.2.2.1]; exact hany
          have hall : 19 + 10 * inits.length + sumS seats + sumP mem = T := by have := Hi.out.2.1; omega
          have hin := any_inits wr np nc inits hi.at_.inits
          rw [← H.out.2.2.2.1] at hin
          have hDT := HD.out
          rw [hall] at hDT
          have Hk := hid (And.intro hi (And.intro hin (And.intro hno2 hDT)))
          clear hi hin hT hany hno2 hall hDT
          by_cases c1 : T ≤ 67108864
          · have e1 : decide ((T : Int) ≤ 67108864) = true := decide_eq_true (by omega)
            have e2 : decide (T ≤ 67108864) = true := decide_eq_true c1
            go_wp2_with fail
            refine (Hk.out.2.1).mono ?_
            rintro e w1 ⟨rfl, hb1⟩
            have Hm := hid (Hk.out.1.i.bel.trans (hb1.mono Hk.out.1.i.bel.size))
            clear hb1 x0 x1 x2 x3 x4 x5 x6
            go_wp2_with fail
            go_ret
            exact ⟨by rw [Hk.out.2.2.2, e2, Hk.out.2.2.1, Hi.out.2.2]; simp, Hm.out⟩
          · have e1 : decide ((T : Int) ≤ 67108864) = false := decide_eq_false (by omega)
            have e2 : decide (T ≤ 67108864) = false := decide_eq_false c1
            go_wp2_with fail
            go_ret
            exact ⟨by rw [Hk.out.2.2.2, e2]; simp, Hk.out.1.i.bel⟩
end Go.Proofs.YtfkpbgookilhjaaGreatDoor
