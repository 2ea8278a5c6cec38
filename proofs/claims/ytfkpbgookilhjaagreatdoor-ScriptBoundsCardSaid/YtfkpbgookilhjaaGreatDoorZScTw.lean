/- What is told is laid: ints, seats, pieces, inits. Printed in part by gen_lay.py. -/
import Derived.Test.YtfkpbgookilhjaaGreatDoorZScTv
import Derived.Test.YtfkpbgookilhjaaGreatDoorZScF
import Derived.Test.YtfkpbgookilhjaaGreatDoorZScN
namespace Go.Proofs.YtfkpbgookilhjaaGreatDoor
set_option linter.unusedSimpArgs false
set_option linter.unusedVariables false
open Go.RowKit

def encD (d : Int) : List UInt8 := lowB (two d) 2
def encS (s : SeatV) : List UInt8 := s.m.enc
def encP (p : PieceV) : List UInt8 := p.m.enc
theorem encD_length (d : Int) : (encD d).length = 2 := lowB_length _ _
theorem encS_eq (s : SeatV) : encS s = nmB s.path ++ lowB s.slide 8 ++ lowB s.deps.length 2 ++ s.deps.flatMap encD := rfl
theorem encP_eq (p : PieceV) : encP p = lowB p.at_ 8 ++ lowB p.prot.toNat 1 ++ blB p.bytes := rfl
theorem lowB_mod (k : Nat) : ∀ n, lowB (n % 256 ^ k) k = lowB n k := by
  induction k with
  | zero => intro n; rfl
  | succ k ih =>
    intro n
    have h1 : n % 256 ^ (k + 1) % 256 = n % 256 := by
      rw [Nat.pow_succ, Nat.mul_comm, Nat.mod_mul_right_mod]
    have h2 : n % 256 ^ (k + 1) / 256 = n / 256 % 256 ^ k := by
      rw [Nat.pow_succ, Nat.mul_comm, Nat.mod_mul_right_div_self]
    rw [lowB, lowB, h1, h2, ih]
theorem two_wrap (d : Int) : ∃ N : Nat, IntKind.u64.wrap d = (N : Int) ∧ N < 2 ^ 64 ∧ lowB N 2 = encD d := by
  refine ⟨(d % 18446744073709551616).toNat, ?_, by omega, ?_⟩
  · show d % 18446744073709551616 = _
    omega
  · unfold encD two
    rw [← lowB_mod 2 (d % 18446744073709551616).toNat]
    congr 1
    omega

/-- What stands while one element is laid: the writer's box in K, the element's in X. -/
structure LIn (W0 w W : World) (c K X : Nat) (v0 v : Value) (ys : List UInt8) (C : Array Value) (t : TypeId) : Prop where
  l : Lays W0 w W c v0 v ys
  kb : W.heap[K]? = some (.cells #[.pointer (some ⟨c, 0, none⟩)] 57 (0, 0))
  kv : v.ownBlock ≠ some K
  xb : W.heap[X]? = some (.cells C t (0, 0))
  xv : v.ownBlock ≠ some X
theorem LIn.next {W0 w W W' : World} {c K X : Nat} {v0 v v' : Value} {ys zs : List UInt8} {C : Array Value} {t : TypeId} (h : LIn W0 w W c K X v0 v ys C t) (hc : W0.heap.size ≤ c) (hKc : K ≠ c) (hXc : X ≠ c) (hr : Wr W' c W0.heap.size v' zs) (ho : Wrote W W' c v v') : LIn W0 w W' c K X v0 v' zs C t :=
  ⟨h.l.next hc hr ho, ho.box h.kb hKc h.kv, ho.off (Array.getElem?_eq_some_iff.1 h.kb).1 h.kv, ho.box h.xb hXc h.xv, ho.off (Array.getElem?_eq_some_iff.1 h.xb).1 h.xv⟩
theorem LIn.k0 {W0 w W : World} {c K X : Nat} {v0 v : Value} {ys : List UInt8} {C : Array Value} {t : TypeId} (h : LIn W0 w W c K X v0 v ys C t) : W.cell? ⟨K, 0, none⟩ = some (.pointer (some ⟨c, 0, none⟩)) := cell_of_row W K 0 _ _ _ h.kb
theorem LIn.start {W0 w : World} {c K : Nat} {v : Value} {xs : List UInt8} (C : Array Value) (t : TypeId) (hb : Below W0.heap.size W0 w) (h : Wr w c W0.heap.size v xs)
    (hK : w.heap[K]? = some (.cells #[.pointer (some ⟨c, 0, none⟩)] 57 (0, 0))) (hKv : v.ownBlock ≠ some K) : LIn W0 w (w.alloc (.cells C t)) c K w.heap.size v v xs C t := by
  have hb1 : Below w.heap.size w (w.alloc (.cells C t)) := (Below.refl _ _).alloc (Nat.le_refl _) _
  exact ⟨(Lays.start hb h).more hb1, (hb1.block K (Array.getElem?_eq_some_iff.1 hK).1).trans hK, hKv, heap_alloc_new w _, fun e => by have := h.own.lt _ e; omega⟩
theorem LIn.fin {W0 w W : World} {c K X : Nat} {v0 v : Value} {ys zs : List UInt8} {C : Array Value} {t : TypeId} (h : LIn W0 w W c K X v0 v ys C t) (e : ys = zs) : Lays W0 w W c v0 v zs := e ▸ h.l

set_option maxHeartbeats 1000000 in
theorem lay_int (W0 w : World) (c K : Nat) (v : Value) (xs : List UInt8) (d : Int) (hb : Below W0.heap.size W0 w) (hc : W0.heap.size ≤ c) (h : Wr w c W0.heap.size v xs)
    (hK : w.heap[K]? = some (.cells #[.pointer (some ⟨c, 0, none⟩)] 57 (0, 0))) (hKc : K ≠ c) (hKv : v.ownBlock ≠ some K) (hlen : xs.length + (encD d).length ≤ 140737488355328) :
    Calls Tryz.prog 55 #[.int .i64 d, .pointer (some ⟨K, 0, none⟩)] w fun e w' => e = .returned (.tuple #[]) ∧ ∃ v', Lays W0 w w' c v v' (xs ++ encD d) := by
  obtain ⟨N, hN, hN2, hN3⟩ := two_wrap d
  rw [encD_length] at hlen
  have k0 : w.cell? ⟨K, 0, none⟩ = some (.pointer (some ⟨c, 0, none⟩)) := cell_of_row w K 0 _ _ _ hK
  have H := hid (And.intro (Lays.start hb h) hN3)
  clear hb h hK hKv hN3
  go_enter Tryz.func55, Tryz.ntmps55
  go_wp2_with fail
  refine (w_number _ c W0.heap.size v xs N 2 2 rfl (by omega) hN2 H.out.1.wr hlen H.out.1.bel.size).mono ?_
  rintro e w1 ⟨rfl, v1, hwr, hwo⟩
  have H1 := hid (H.out.1.next hc hwr hwo)
  clear hwr hwo k0
  go_wp2_with fail
  go_end0
  exact ⟨rfl, v1, by rw [← H.out.2]; exact H1.out⟩

set_option maxHeartbeats 1000000 in
theorem lay_ints (W0 w : World) (c K : Nat) (v : Value) (xs : List UInt8) (p : Option Addr) (cap : Nat) (l : List Int) (hb : Below W0.heap.size W0 w) (hc : W0.heap.size ≤ c) (h : Wr w c W0.heap.size v xs)
    (hK : w.heap[K]? = some (.cells #[.pointer (some ⟨c, 0, none⟩)] 57 (0, 0))) (hKc : K ≠ c) (hKv : v.ownBlock ≠ some K)
    (hv : IntsAt W0 (.slice p l.length cap) l) (hbad : ∀ d ∈ l, badD d = false) (hn : l.length < 65536)
    (hlen : xs.length + 2 + (l.flatMap encD).length ≤ 140737488355328) :
    Calls Tryz.prog 54 #[.pointer (some ⟨c, 0, none⟩), .int .i64 2, .slice p l.length cap, .func (.func 55) #[] #[.pointer (some ⟨K, 0, none⟩)]] w fun e w' =>
      e = .returned (.tuple #[]) ∧ ∃ v', Lays W0 w w' c v v' (xs ++ lowB l.length 2 ++ l.flatMap encD) := by
  have hw1 : IntKind.u64.wrap (l.length : Int) = l.length := IntWalk.u64_in _ (by omega)
  have H := hid (And.intro (Lays.start hb h) (And.intro hv (And.intro hbad (And.intro hK hKv))))
  clear hb h hv hbad hK hKv
  go_enter Tryz.func54, Tryz.ntmps54
  go_wp2_with fail
  refine (w_number _ c W0.heap.size v xs l.length 2 _ rfl (by omega) (by omega) H.out.1.wr (by omega) H.out.1.bel.size).mono ?_
  rintro e w1 ⟨rfl, v1, hwr, hwo⟩
  have hKl : K < w.heap.size := (Array.getElem?_eq_some_iff.1 H.out.2.2.2.1).1
  have H1 := hid (And.intro (H.out.1.next hc hwr hwo) (And.intro (hwo.box H.out.2.2.2.1 hKc H.out.2.2.2.2) (hwo.off hKl H.out.2.2.2.2)))
  clear hwr hwo
  go_wp2_with fail
  go_loopw [18] (fun i wr => ∃ k : Nat, k ≤ l.length ∧ i = .int .i64 (k : Int) ∧ ∃ v', Lays W0 w wr c v v' (xs ++ lowB l.length 2 ++ (l.take k).flatMap encD) ∧ wr.heap[K]? = some (.cells #[.pointer (some ⟨c, 0, none⟩)] 57 (0, 0)) ∧ v'.ownBlock ≠ some K) (fun i _ => l.length - (intOf i).toNat)
  case atStart => exact ⟨0, Nat.zero_le _, rfl, v1, by simpa using H1.out.1, H1.out.2.1, H1.out.2.2⟩
  case round =>
    obtain ⟨k, hk, rfl, v', hl, hK, hKv⟩ := hrel
    by_cases hlt : k < l.length
    · obtain ⟨x, hs⟩ : ∃ s, l[k]? = some s := ⟨_, List.getElem?_eq_getElem hlt⟩
      obtain ⟨g, off, rfl, y0⟩ := IntsAt.cell (RowsAt.below H.out.2.1 hl.bel) hs
      have hmem := List.mem_of_getElem? hs
      have e1 := flat_snoc encD hs
      have e2 := flat_take_le encD l (k + 1)
      have hgood := H.out.2.2.1 x hmem
      rw [e1, List.length_append] at e2
      have hlen2 : (xs ++ lowB l.length 2 ++ (l.take k).flatMap encD).length + (encD x).length ≤ 140737488355328 := by
        rw [List.length_append, List.length_append, lowB_length]; omega
      have hb2 : Below wr.heap.size wr wr := Below.refl _ _
      have hKl : K < wr.heap.size := (Array.getElem?_eq_some_iff.1 hK).1
      have Hl := hid (And.intro (hl.more hb2) (And.intro ((hb2.block K hKl).trans hK) (And.intro hKv (And.intro e1 hlen2))))
      clear hl e1 e2 hs hlen2 hK hKv hmem hb2
      go_wp2_with fail
      refine (lay_int W0 _ c K v' _ x Hl.out.1.bel hc Hl.out.1.wr Hl.out.2.1 hKc Hl.out.2.2.1 Hl.out.2.2.2.2).mono ?_
      rintro e w2 ⟨rfl, v2, hl2⟩
      have H2 := hid (And.intro (Hl.out.1.next hc hl2.wr hl2.wo) (And.intro (hl2.wo.box Hl.out.2.1 hKc Hl.out.2.2.1) (hl2.wo.off (Array.getElem?_eq_some_iff.1 Hl.out.2.1).1 Hl.out.2.2.1)))
      clear hl2
      go_wp2_with fail
      refine ⟨⟨k + 1, by omega, by go_num, v2, ?_, H2.out.2.1, H2.out.2.2⟩, by simp [intOf]; omega⟩
      rw [Hl.out.2.2.2.1, ← List.append_assoc]
      exact H2.out.1
    · have Hl := hid hl
      clear hl hK hKv
      go_wp2_with fail
      go_end0
      refine ⟨rfl, v', ?_⟩
      have := Hl.out
      rwa [flat_all encD (by omega)] at this


theorem not_badS {s : SeatV} (h : badSV s = false) : s.path.length ≤ 65535 ∧ s.deps.length ≤ 65535 ∧ s.deps.any badD = false := by
  unfold badSV at h
  simp only [Bool.or_eq_false_iff, decide_eq_false_iff_not] at h
  exact ⟨by omega, by omega, h.2⟩
theorem not_badP {s : PieceV} (h : badPV s = false) : 0 ≤ s.prot ∧ s.prot ≤ 255 ∧ s.n ≤ 67108864 := by
  unfold badPV inB2 at h
  simp only [Bool.or_eq_false_iff, decide_eq_false_iff_not, Bool.not_eq_false', Bool.and_eq_true, decide_eq_true_eq] at h
  exact ⟨h.1.1, h.1.2, by omega⟩
theorem not_badI {s : InitM} (h : badI s = false) : 0 ≤ s.image ∧ s.image ≤ 65535 := by
  unfold badI inB2 at h
  simp only [Bool.not_eq_false', Bool.and_eq_true, decide_eq_true_eq] at h
  exact h

set_option maxHeartbeats 1000000 in
theorem lay_seat (W0 w : World) (c K : Nat) (v : Value) (xs : List UInt8) (x : SeatV) (hb : Below W0.heap.size W0 w) (hc : W0.heap.size ≤ c) (h : Wr w c W0.heap.size v xs)
    (hK : w.heap[K]? = some (.cells #[.pointer (some ⟨c, 0, none⟩)] 57 (0, 0))) (hKc : K ≠ c) (hKv : v.ownBlock ≠ some K) (hg : IntsAt W0 (.slice x.p x.deps.length x.cap) x.deps ∧ x.slide < 2 ^ 64 ∧ badSV x = false) (hlen : xs.length + (encS x).length ≤ 140737488355328) :
    Calls Tryz.prog 53 #[.agg #[.string (mkS x.path), .int .u64 (x.slide : Int), .slice x.p x.deps.length x.cap], .pointer (some ⟨K, 0, none⟩)] w fun e w' => e = .returned (.tuple #[]) ∧ ∃ v', Lays W0 w w' c v v' (xs ++ encS x) := by
  have hXc : w.heap.size ≠ c := by have := h.lt; omega
  obtain ⟨g1, g2, g3⟩ := not_badS hg.2.2
  have hl2 : (encS x).length = 2 + x.path.length + 8 + 2 + (x.deps.flatMap encD).length := by rw [encS_eq]; simp only [List.length_append, nmB_length, lowB_length]
  have hi := LIn.start #[.string (mkS x.path), .int .u64 (x.slide : Int), .slice x.p x.deps.length x.cap] 90 hb h hK hKv
  have k0 := hi.k0
  have y0 : (w.alloc (.cells #[.string (mkS x.path), .int .u64 (x.slide : Int), .slice x.p x.deps.length x.cap] 90)).cell? ⟨w.heap.size, 0, none⟩ = some (.string (mkS x.path)) := cell_of_row _ _ 0 _ _ _ hi.xb
  have H := hid (And.intro hi (And.intro hg g3))
  have Hl := hid hl2
  clear hi hb h hK hKv hg g3 hl2
  go_enter Tryz.func53, Tryz.ntmps53
  go_wp2_with fail
  refine (w_name _ c W0.heap.size v xs x.path H.out.1.l.wr (by have := Hl.out; omega) H.out.1.l.bel.size).mono ?_
  rintro e w1 ⟨rfl, v1, hwr, hwo⟩
  have hi := H.out.1.next hc hKc hXc hwr hwo
  clear hwr hwo k0 y0
  have k0 := hi.k0
  have y1 : w1.cell? ⟨w.heap.size, 1, none⟩ = some (.int .u64 (x.slide : Int)) := cell_of_row _ _ 1 _ _ _ hi.xb
  have H1 := hid hi
  clear hi
  go_wp2_with fail
  refine (w_number _ c W0.heap.size v1 _ x.slide 8 8 rfl (by omega) H.out.2.1.2.1 H1.out.l.wr (by have := Hl.out; rw [List.length_append, nmB_length]; omega) H1.out.l.bel.size).mono ?_
  rintro e w2 ⟨rfl, v2, hwr, hwo⟩
  have hi := H1.out.next hc hKc hXc hwr hwo
  clear hwr hwo k0 y1
  have k0 := hi.k0
  have y2 : w2.cell? ⟨w.heap.size, 2, none⟩ = some (.slice x.p x.deps.length x.cap) := cell_of_row _ _ 2 _ _ _ hi.xb
  have H2 := hid hi
  clear hi
  go_wp2_with fail
  refine (lay_ints W0 w2 c K v2 _ x.p x.cap x.deps H2.out.l.bel hc H2.out.l.wr H2.out.kb hKc H2.out.kv H.out.2.1.1 (fun d hd => by have := List.any_eq_false.1 H.out.2.2 d hd; simpa using this) (by omega) (by have := Hl.out; simp only [List.length_append, nmB_length, lowB_length]; omega)).mono ?_
  rintro e w3 ⟨rfl, v3, hl3⟩
  have H3 := hid (H2.out.next hc hKc hXc hl3.wr hl3.wo)
  clear hl3 k0 y2
  go_wp2_with fail
  go_end0
  refine ⟨rfl, v3, H3.out.fin ?_⟩
  rw [encS_eq]
  simp only [List.append_assoc]

set_option maxHeartbeats 1000000 in
theorem lay_piece (W0 w : World) (c K : Nat) (v : Value) (xs : List UInt8) (x : PieceV) (hb : Below W0.heap.size W0 w) (hc : W0.heap.size ≤ c) (h : Wr w c W0.heap.size v xs)
    (hK : w.heap[K]? = some (.cells #[.pointer (some ⟨c, 0, none⟩)] 57 (0, 0))) (hKc : K ≠ c) (hKv : v.ownBlock ≠ some K) (hg : BS W0 (.slice x.p x.n x.cap) x.bytes ∧ x.at_ < 2 ^ 64 ∧ badPV x = false) (hlen : xs.length + (encP x).length ≤ 140737488355328) :
    Calls Tryz.prog 57 #[.agg #[.int .u64 (x.at_ : Int), .int .i64 x.prot, .slice x.p x.n x.cap], .pointer (some ⟨K, 0, none⟩)] w fun e w' => e = .returned (.tuple #[]) ∧ ∃ v', Lays W0 w w' c v v' (xs ++ encP x) := by
  have hXc : w.heap.size ≠ c := by have := h.lt; omega
  obtain ⟨g1, g2, g3⟩ := not_badP hg.2.2
  have hbn : x.bytes.length = x.n := by obtain ⟨a, b, he, -⟩ := hg.1; exact (Value.slice.inj he).2.1.symm
  have hwp : IntKind.u64.wrap x.prot = ((x.prot.toNat : Nat) : Int) := by rw [IntWalk.u64_in _ (by omega)]; omega
  obtain ⟨N, hN⟩ : ∃ N, N = x.prot.toNat := ⟨_, rfl⟩
  rw [← hN] at hwp
  have hN2 : N < 2 ^ 64 := by omega
  have hl2 : (encP x).length = 8 + 1 + (4 + x.bytes.length) := by rw [encP_eq]; simp only [List.length_append, blB_length, lowB_length]
  have hi := LIn.start #[.int .u64 (x.at_ : Int), .int .i64 x.prot, .slice x.p x.n x.cap] 41 hb h hK hKv
  have k0 := hi.k0
  have y0 : (w.alloc (.cells #[.int .u64 (x.at_ : Int), .int .i64 x.prot, .slice x.p x.n x.cap] 41)).cell? ⟨w.heap.size, 0, none⟩ = some (.int .u64 (x.at_ : Int)) := cell_of_row _ _ 0 _ _ _ hi.xb
  have H := hid (And.intro hi (And.intro hg (And.intro hN hbn)))
  have Hl := hid hl2
  clear hi hb h hK hKv hg g1 g2 hl2 hN hbn
  go_enter Tryz.func57, Tryz.ntmps57
  go_wp2_with fail
  refine (w_number _ c W0.heap.size v xs x.at_ 8 8 rfl (by omega) H.out.2.1.2.1 H.out.1.l.wr (by have := Hl.out; omega) H.out.1.l.bel.size).mono ?_
  rintro e w1 ⟨rfl, v1, hwr, hwo⟩
  have hi := H.out.1.next hc hKc hXc hwr hwo
  clear hwr hwo k0 y0
  have k0 := hi.k0
  have y1 : w1.cell? ⟨w.heap.size, 1, none⟩ = some (.int .i64 x.prot) := cell_of_row _ _ 1 _ _ _ hi.xb
  have H1 := hid hi
  clear hi
  go_wp2_with fail
  refine (w_number _ c W0.heap.size v1 _ N 1 1 rfl (by omega) hN2 H1.out.l.wr (by have := Hl.out; rw [List.length_append, lowB_length]; omega) H1.out.l.bel.size).mono ?_
  rintro e w2 ⟨rfl, v2, hwr, hwo⟩
  have hi := H1.out.next hc hKc hXc hwr hwo
  clear hwr hwo k0 y1
  have k0 := hi.k0
  have y2 : w2.cell? ⟨w.heap.size, 2, none⟩ = some (.slice x.p x.n x.cap) := cell_of_row _ _ 2 _ _ _ hi.xb
  have H2 := hid hi
  clear hi
  go_wp2_with fail
  have hq : Calls Tryz.prog 27 #[.pointer (some ⟨c, 0, none⟩), .slice x.p x.n x.cap] w2 (WrEnd w2 c W0.heap.size v2 (xs ++ lowB x.at_ 8 ++ lowB N 1 ++ blB x.bytes)) := by
    have hbs := H.out.2.1.1.below H2.out.l.bel
    have hap : ∀ k, inBlk (.slice x.p x.n x.cap) k → k ≠ c ∧ v2.ownBlock ≠ some k := by
      intro k hk
      have hkl := bs_lt H.out.2.1.1 hk
      exact ⟨by omega, fun e => by have := H2.out.l.wr.high _ e; omega⟩
    have hbn := H.out.2.2.2
    rw [← hbn] at hbs hap ⊢
    exact w_blob _ c W0.heap.size v2 _ x.bytes x.p x.cap hbs hap H2.out.l.wr (by have := Hl.out; simp only [List.length_append, lowB_length]; omega) H2.out.l.bel.size
  refine hq.mono ?_
  rintro e w3 ⟨rfl, v3, hwr, hwo⟩
  have H3 := hid (H2.out.next hc hKc hXc hwr hwo)
  clear hwr hwo k0 y2 hq
  go_wp2_with fail
  go_end0
  refine ⟨rfl, v3, H3.out.fin ?_⟩
  rw [encP_eq, H.out.2.2.1]
  simp only [List.append_assoc]

set_option maxHeartbeats 1000000 in
theorem lay_init (W0 w : World) (c K : Nat) (v : Value) (xs : List UInt8) (x : InitM) (hb : Below W0.heap.size W0 w) (hc : W0.heap.size ≤ c) (h : Wr w c W0.heap.size v xs)
    (hK : w.heap[K]? = some (.cells #[.pointer (some ⟨c, 0, none⟩)] 57 (0, 0))) (hKc : K ≠ c) (hKv : v.ownBlock ≠ some K) (hg : x.at_ < 2 ^ 64 ∧ badI x = false) (hlen : xs.length + (InitM.enc x).length ≤ 140737488355328) :
    Calls Tryz.prog 59 #[.agg #[.int .i64 x.image, .int .u64 (x.at_ : Int)], .pointer (some ⟨K, 0, none⟩)] w fun e w' => e = .returned (.tuple #[]) ∧ ∃ v', Lays W0 w w' c v v' (xs ++ InitM.enc x) := by
  have hXc : w.heap.size ≠ c := by have := h.lt; omega
  obtain ⟨g1, g2⟩ := not_badI hg.2
  have hwp : IntKind.u64.wrap x.image = ((x.image.toNat : Nat) : Int) := by rw [IntWalk.u64_in _ (by omega)]; omega
  obtain ⟨N, hN⟩ : ∃ N, N = x.image.toNat := ⟨_, rfl⟩
  rw [← hN] at hwp
  have hN2 : N < 2 ^ 64 := by omega
  have hl2 : (InitM.enc x).length = 10 := by unfold InitM.enc; simp only [List.length_append, lowB_length]
  rw [hl2] at hlen
  have hi := LIn.start #[.int .i64 x.image, .int .u64 (x.at_ : Int)] 95 hb h hK hKv
  have k0 := hi.k0
  have y0 : (w.alloc (.cells #[.int .i64 x.image, .int .u64 (x.at_ : Int)] 95)).cell? ⟨w.heap.size, 0, none⟩ = some (.int .i64 x.image) := cell_of_row _ _ 0 _ _ _ hi.xb
  have H := hid (And.intro hi (And.intro hg hN))
  clear hi hb h hK hKv hg g1 g2 hl2 hN
  go_enter Tryz.func59, Tryz.ntmps59
  go_wp2_with fail
  refine (w_number _ c W0.heap.size v xs N 2 2 rfl (by omega) hN2 H.out.1.l.wr (by omega) H.out.1.l.bel.size).mono ?_
  rintro e w1 ⟨rfl, v1, hwr, hwo⟩
  have hi := H.out.1.next hc hKc hXc hwr hwo
  clear hwr hwo k0 y0
  have k0 := hi.k0
  have y1 : w1.cell? ⟨w.heap.size, 1, none⟩ = some (.int .u64 (x.at_ : Int)) := cell_of_row _ _ 1 _ _ _ hi.xb
  have H1 := hid hi
  clear hi
  go_wp2_with fail
  refine (w_number _ c W0.heap.size v1 _ x.at_ 8 8 rfl (by omega) H.out.2.1.1 H1.out.l.wr (by rw [List.length_append, lowB_length]; omega) H1.out.l.bel.size).mono ?_
  rintro e w2 ⟨rfl, v2, hwr, hwo⟩
  have H2 := hid (H1.out.next hc hKc hXc hwr hwo)
  clear hwr hwo k0 y1
  go_wp2_with fail
  go_end0
  refine ⟨rfl, v2, H2.out.fin ?_⟩
  unfold InitM.enc
  rw [H.out.2.2]
  simp only [List.append_assoc]

set_option maxHeartbeats 1000000 in
theorem lay_seats (W0 w : World) (c K : Nat) (v : Value) (xs : List UInt8) (p : Option Addr) (cap : Nat) (l : List SeatV) (hb : Below W0.heap.size W0 w) (hc : W0.heap.size ≤ c) (h : Wr w c W0.heap.size v xs)
    (hK : w.heap[K]? = some (.cells #[.pointer (some ⟨c, 0, none⟩)] 57 (0, 0))) (hKc : K ≠ c) (hKv : v.ownBlock ≠ some K)
    (hv : SeatsAt W0 (.slice p l.length cap) l) (hdeps : ∀ s ∈ l, IntsAt W0 (.slice s.p s.deps.length s.cap) s.deps ∧ s.slide < 2 ^ 64 ∧ badSV s = false) (hn : l.length < 65536)
    (hlen : xs.length + 2 + (l.flatMap encS).length ≤ 140737488355328) :
    Calls Tryz.prog 52 #[.pointer (some ⟨c, 0, none⟩), .int .i64 2, .slice p l.length cap, .func (.func 53) #[] #[.pointer (some ⟨K, 0, none⟩)]] w fun e w' =>
      e = .returned (.tuple #[]) ∧ ∃ v', Lays W0 w w' c v v' (xs ++ lowB l.length 2 ++ l.flatMap encS) := by
  have hw1 : IntKind.u64.wrap (l.length : Int) = l.length := IntWalk.u64_in _ (by omega)
  have H := hid (And.intro (Lays.start hb h) (And.intro hv (And.intro hdeps (And.intro hK hKv))))
  clear hb h hv hdeps hK hKv
  go_enter Tryz.func52, Tryz.ntmps52
  go_wp2_with fail
  refine (w_number _ c W0.heap.size v xs l.length 2 _ rfl (by omega) (by omega) H.out.1.wr (by omega) H.out.1.bel.size).mono ?_
  rintro e w1 ⟨rfl, v1, hwr, hwo⟩
  have hKl : K < w.heap.size := (Array.getElem?_eq_some_iff.1 H.out.2.2.2.1).1
  have H1 := hid (And.intro (H.out.1.next hc hwr hwo) (And.intro (hwo.box H.out.2.2.2.1 hKc H.out.2.2.2.2) (hwo.off hKl H.out.2.2.2.2)))
  clear hwr hwo
  go_wp2_with fail
  go_loopw [18] (fun i wr => ∃ k : Nat, k ≤ l.length ∧ i = .int .i64 (k : Int) ∧ ∃ v', Lays W0 w wr c v v' (xs ++ lowB l.length 2 ++ (l.take k).flatMap encS) ∧ wr.heap[K]? = some (.cells #[.pointer (some ⟨c, 0, none⟩)] 57 (0, 0)) ∧ v'.ownBlock ≠ some K) (fun i _ => l.length - (intOf i).toNat)
  case atStart => exact ⟨0, Nat.zero_le _, rfl, v1, by simpa using H1.out.1, H1.out.2.1, H1.out.2.2⟩
  case round =>
    obtain ⟨k, hk, rfl, v', hl, hK, hKv⟩ := hrel
    by_cases hlt : k < l.length
    · obtain ⟨x, hs⟩ : ∃ s, l[k]? = some s := ⟨_, List.getElem?_eq_getElem hlt⟩
      obtain ⟨g, off, rfl, y0, y1, y2⟩ := SeatsAt.cell (RowsAt.below H.out.2.1 hl.bel) hs
      have hmem := List.mem_of_getElem? hs
      have e1 := flat_snoc encS hs
      have e2 := flat_take_le encS l (k + 1)
      have hgood := H.out.2.2.1 x hmem
      rw [e1, List.length_append] at e2
      have hlen2 : (xs ++ lowB l.length 2 ++ (l.take k).flatMap encS).length + (encS x).length ≤ 140737488355328 := by
        rw [List.length_append, List.length_append, lowB_length]; omega
      have hb2 : Below wr.heap.size wr (wr.alloc (.cells #[.string (mkS x.path), .int .u64 (x.slide : Int), .slice x.p x.deps.length x.cap] 90)) := (Below.refl _ _).alloc (Nat.le_refl _) _
      have hKl : K < wr.heap.size := (Array.getElem?_eq_some_iff.1 hK).1
      have Hl := hid (And.intro (hl.more hb2) (And.intro ((hb2.block K hKl).trans hK) (And.intro hKv (And.intro e1 hlen2))))
      clear hl e1 e2 hs hlen2 hK hKv hmem hb2
      go_wp2_with fail
      refine (lay_seat W0 _ c K v' _ x Hl.out.1.bel hc Hl.out.1.wr Hl.out.2.1 hKc Hl.out.2.2.1 hgood Hl.out.2.2.2.2).mono ?_
      rintro e w2 ⟨rfl, v2, hl2⟩
      have H2 := hid (And.intro (Hl.out.1.next hc hl2.wr hl2.wo) (And.intro (hl2.wo.box Hl.out.2.1 hKc Hl.out.2.2.1) (hl2.wo.off (Array.getElem?_eq_some_iff.1 Hl.out.2.1).1 Hl.out.2.2.1)))
      clear hl2
      go_wp2_with fail
      refine ⟨⟨k + 1, by omega, by go_num, v2, ?_, H2.out.2.1, H2.out.2.2⟩, by simp [intOf]; omega⟩
      rw [Hl.out.2.2.2.1, ← List.append_assoc]
      exact H2.out.1
    · have Hl := hid hl
      clear hl hK hKv
      go_wp2_with fail
      go_end0
      refine ⟨rfl, v', ?_⟩
      have := Hl.out
      rwa [flat_all encS (by omega)] at this


set_option maxHeartbeats 1000000 in
theorem lay_pieces (W0 w : World) (c K : Nat) (v : Value) (xs : List UInt8) (p : Option Addr) (cap : Nat) (l : List PieceV) (hb : Below W0.heap.size W0 w) (hc : W0.heap.size ≤ c) (h : Wr w c W0.heap.size v xs)
    (hK : w.heap[K]? = some (.cells #[.pointer (some ⟨c, 0, none⟩)] 57 (0, 0))) (hKc : K ≠ c) (hKv : v.ownBlock ≠ some K)
    (hv : PiecesAt W0 (.slice p l.length cap) l) (hbs : ∀ s ∈ l, BS W0 (.slice s.p s.n s.cap) s.bytes ∧ s.at_ < 2 ^ 64 ∧ badPV s = false) (hn : l.length < 65536)
    (hlen : xs.length + 4 + (l.flatMap encP).length ≤ 140737488355328) :
    Calls Tryz.prog 56 #[.pointer (some ⟨c, 0, none⟩), .int .i64 4, .slice p l.length cap, .func (.func 57) #[] #[.pointer (some ⟨K, 0, none⟩)]] w fun e w' =>
      e = .returned (.tuple #[]) ∧ ∃ v', Lays W0 w w' c v v' (xs ++ lowB l.length 4 ++ l.flatMap encP) := by
  have hw1 : IntKind.u64.wrap (l.length : Int) = l.length := IntWalk.u64_in _ (by omega)
  have H := hid (And.intro (Lays.start hb h) (And.intro hv (And.intro hbs (And.intro hK hKv))))
  clear hb h hv hbs hK hKv
  go_enter Tryz.func56, Tryz.ntmps56
  go_wp2_with fail
  refine (w_number _ c W0.heap.size v xs l.length 4 _ rfl (by omega) (by omega) H.out.1.wr (by omega) H.out.1.bel.size).mono ?_
  rintro e w1 ⟨rfl, v1, hwr, hwo⟩
  have hKl : K < w.heap.size := (Array.getElem?_eq_some_iff.1 H.out.2.2.2.1).1
  have H1 := hid (And.intro (H.out.1.next hc hwr hwo) (And.intro (hwo.box H.out.2.2.2.1 hKc H.out.2.2.2.2) (hwo.off hKl H.out.2.2.2.2)))
  clear hwr hwo
  go_wp2_with fail
  go_loopw [18] (fun i wr => ∃ k : Nat, k ≤ l.length ∧ i = .int .i64 (k : Int) ∧ ∃ v', Lays W0 w wr c v v' (xs ++ lowB l.length 4 ++ (l.take k).flatMap encP) ∧ wr.heap[K]? = some (.cells #[.pointer (some ⟨c, 0, none⟩)] 57 (0, 0)) ∧ v'.ownBlock ≠ some K) (fun i _ => l.length - (intOf i).toNat)
  case atStart => exact ⟨0, Nat.zero_le _, rfl, v1, by simpa using H1.out.1, H1.out.2.1, H1.out.2.2⟩
  case round =>
    obtain ⟨k, hk, rfl, v', hl, hK, hKv⟩ := hrel
    by_cases hlt : k < l.length
    · obtain ⟨x, hs⟩ : ∃ s, l[k]? = some s := ⟨_, List.getElem?_eq_getElem hlt⟩
      obtain ⟨g, off, rfl, y0, y1, y2⟩ := PiecesAt.cell (RowsAt.below H.out.2.1 hl.bel) hs
      have hmem := List.mem_of_getElem? hs
      have e1 := flat_snoc encP hs
      have e2 := flat_take_le encP l (k + 1)
      have hgood := H.out.2.2.1 x hmem
      rw [e1, List.length_append] at e2
      have hlen2 : (xs ++ lowB l.length 4 ++ (l.take k).flatMap encP).length + (encP x).length ≤ 140737488355328 := by
        rw [List.length_append, List.length_append, lowB_length]; omega
      have hb2 : Below wr.heap.size wr (wr.alloc (.cells #[.int .u64 (x.at_ : Int), .int .i64 x.prot, .slice x.p x.n x.cap] 41)) := (Below.refl _ _).alloc (Nat.le_refl _) _
      have hKl : K < wr.heap.size := (Array.getElem?_eq_some_iff.1 hK).1
      have Hl := hid (And.intro (hl.more hb2) (And.intro ((hb2.block K hKl).trans hK) (And.intro hKv (And.intro e1 hlen2))))
      clear hl e1 e2 hs hlen2 hK hKv hmem hb2
      go_wp2_with fail
      refine (lay_piece W0 _ c K v' _ x Hl.out.1.bel hc Hl.out.1.wr Hl.out.2.1 hKc Hl.out.2.2.1 hgood Hl.out.2.2.2.2).mono ?_
      rintro e w2 ⟨rfl, v2, hl2⟩
      have H2 := hid (And.intro (Hl.out.1.next hc hl2.wr hl2.wo) (And.intro (hl2.wo.box Hl.out.2.1 hKc Hl.out.2.2.1) (hl2.wo.off (Array.getElem?_eq_some_iff.1 Hl.out.2.1).1 Hl.out.2.2.1)))
      clear hl2
      go_wp2_with fail
      refine ⟨⟨k + 1, by omega, by go_num, v2, ?_, H2.out.2.1, H2.out.2.2⟩, by simp [intOf]; omega⟩
      rw [Hl.out.2.2.2.1, ← List.append_assoc]
      exact H2.out.1
    · have Hl := hid hl
      clear hl hK hKv
      go_wp2_with fail
      go_end0
      refine ⟨rfl, v', ?_⟩
      have := Hl.out
      rwa [flat_all encP (by omega)] at this


set_option maxHeartbeats 1000000 in
theorem lay_inits (W0 w : World) (c K : Nat) (v : Value) (xs : List UInt8) (p : Option Addr) (cap : Nat) (l : List InitM) (hb : Below W0.heap.size W0 w) (hc : W0.heap.size ≤ c) (h : Wr w c W0.heap.size v xs)
    (hK : w.heap[K]? = some (.cells #[.pointer (some ⟨c, 0, none⟩)] 57 (0, 0))) (hKc : K ≠ c) (hKv : v.ownBlock ≠ some K)
    (hv : InitsAt W0 (.slice p l.length cap) l) (hin : ∀ s ∈ l, s.at_ < 2 ^ 64 ∧ badI s = false) (hn : l.length < 1000001)
    (hlen : xs.length + 4 + (l.flatMap InitM.enc).length ≤ 140737488355328) :
    Calls Tryz.prog 58 #[.pointer (some ⟨c, 0, none⟩), .int .i64 4, .slice p l.length cap, .func (.func 59) #[] #[.pointer (some ⟨K, 0, none⟩)]] w fun e w' =>
      e = .returned (.tuple #[]) ∧ ∃ v', Lays W0 w w' c v v' (xs ++ lowB l.length 4 ++ l.flatMap InitM.enc) := by
  have hw1 : IntKind.u64.wrap (l.length : Int) = l.length := IntWalk.u64_in _ (by omega)
  have H := hid (And.intro (Lays.start hb h) (And.intro hv (And.intro hin (And.intro hK hKv))))
  clear hb h hv hin hK hKv
  go_enter Tryz.func58, Tryz.ntmps58
  go_wp2_with fail
  refine (w_number _ c W0.heap.size v xs l.length 4 _ rfl (by omega) (by omega) H.out.1.wr (by omega) H.out.1.bel.size).mono ?_
  rintro e w1 ⟨rfl, v1, hwr, hwo⟩
  have hKl : K < w.heap.size := (Array.getElem?_eq_some_iff.1 H.out.2.2.2.1).1
  have H1 := hid (And.intro (H.out.1.next hc hwr hwo) (And.intro (hwo.box H.out.2.2.2.1 hKc H.out.2.2.2.2) (hwo.off hKl H.out.2.2.2.2)))
  clear hwr hwo
  go_wp2_with fail
  go_loopw [18] (fun i wr => ∃ k : Nat, k ≤ l.length ∧ i = .int .i64 (k : Int) ∧ ∃ v', Lays W0 w wr c v v' (xs ++ lowB l.length 4 ++ (l.take k).flatMap InitM.enc) ∧ wr.heap[K]? = some (.cells #[.pointer (some ⟨c, 0, none⟩)] 57 (0, 0)) ∧ v'.ownBlock ≠ some K) (fun i _ => l.length - (intOf i).toNat)
  case atStart => exact ⟨0, Nat.zero_le _, rfl, v1, by simpa using H1.out.1, H1.out.2.1, H1.out.2.2⟩
  case round =>
    obtain ⟨k, hk, rfl, v', hl, hK, hKv⟩ := hrel
    by_cases hlt : k < l.length
    · obtain ⟨x, hs⟩ : ∃ s, l[k]? = some s := ⟨_, List.getElem?_eq_getElem hlt⟩
      obtain ⟨g, off, rfl, y0, y1⟩ := InitsAt.cell (RowsAt.below H.out.2.1 hl.bel) hs
      have hmem := List.mem_of_getElem? hs
      have e1 := flat_snoc InitM.enc hs
      have e2 := flat_take_le InitM.enc l (k + 1)
      have hgood := H.out.2.2.1 x hmem
      rw [e1, List.length_append] at e2
      have hlen2 : (xs ++ lowB l.length 4 ++ (l.take k).flatMap InitM.enc).length + (InitM.enc x).length ≤ 140737488355328 := by
        rw [List.length_append, List.length_append, lowB_length]; omega
      have hb2 : Below wr.heap.size wr (wr.alloc (.cells #[.int .i64 x.image, .int .u64 (x.at_ : Int)] 95)) := (Below.refl _ _).alloc (Nat.le_refl _) _
      have hKl : K < wr.heap.size := (Array.getElem?_eq_some_iff.1 hK).1
      have Hl := hid (And.intro (hl.more hb2) (And.intro ((hb2.block K hKl).trans hK) (And.intro hKv (And.intro e1 hlen2))))
      clear hl e1 e2 hs hlen2 hK hKv hmem hb2
      go_wp2_with fail
      refine (lay_init W0 _ c K v' _ x Hl.out.1.bel hc Hl.out.1.wr Hl.out.2.1 hKc Hl.out.2.2.1 hgood Hl.out.2.2.2.2).mono ?_
      rintro e w2 ⟨rfl, v2, hl2⟩
      have H2 := hid (And.intro (Hl.out.1.next hc hl2.wr hl2.wo) (And.intro (hl2.wo.box Hl.out.2.1 hKc Hl.out.2.2.1) (hl2.wo.off (Array.getElem?_eq_some_iff.1 Hl.out.2.1).1 Hl.out.2.2.1)))
      clear hl2
      go_wp2_with fail
      refine ⟨⟨k + 1, by omega, by go_num, v2, ?_, H2.out.2.1, H2.out.2.2⟩, by simp [intOf]; omega⟩
      rw [Hl.out.2.2.2.1, ← List.append_assoc]
      exact H2.out.1
    · have Hl := hid hl
      clear hl hK hKv
      go_wp2_with fail
      go_end0
      refine ⟨rfl, v', ?_⟩
      have := Hl.out
      rwa [flat_all InitM.enc (by omega)] at this

end Go.Proofs.YtfkpbgookilhjaaGreatDoor
