/- The program's lists: lay at strings and at files. -/
import Derived.Test.YtfkpbgookilhjaaGreatDoorZScB
import Derived.Test.YtfkpbgookilhjaaGreatDoorZScO
namespace Go.Proofs.YtfkpbgookilhjaaGreatDoor
set_option linter.unusedSimpArgs false
set_option linter.unusedVariables false
open Go.RowKit

theorem flat_take_le {α β : Type} (f : α → List β) (l : List α) (k : Nat) : ((l.take k).flatMap f).length ≤ (l.flatMap f).length := by
  have e : l.flatMap f = (l.take k).flatMap f ++ (l.drop k).flatMap f := by rw [← List.flatMap_append, List.take_append_drop]
  rw [e, List.length_append]; omega
theorem flat_snoc {α β : Type} (f : α → List β) {l : List α} {k : Nat} {s : α} (hs : l[k]? = some s) : (l.take (k + 1)).flatMap f = (l.take k).flatMap f ++ f s := by
  rw [List.take_add_one, hs]
  simp
theorem flat_all {α β : Type} (f : α → List β) {l : List α} {k : Nat} (hk : l.length ≤ k) : (l.take k).flatMap f = l.flatMap f := by rw [List.take_of_length_le hk]

/-- What stands while a list is laid: the writer, and all that was there ahead of it. -/
structure Lays (W0 w W : World) (c : Nat) (v v' : Value) (ys : List UInt8) : Prop where
  wr : Wr W c W0.heap.size v' ys
  wo : Wrote w W c v v'
  bel : Below W0.heap.size W0 W
theorem Lays.start {W0 w : World} {c : Nat} {v : Value} {xs : List UInt8} (hb : Below W0.heap.size W0 w) (h : Wr w c W0.heap.size v xs) : Lays W0 w w c v v xs := ⟨h, Wrote.refl _ _ _, hb⟩
theorem Lays.next {W0 w W W' : World} {c : Nat} {v v' v2 : Value} {ys zs : List UInt8} (h : Lays W0 w W c v v' ys) (hc : W0.heap.size ≤ c) (hr : Wr W' c W0.heap.size v2 zs) (ho : Wrote W W' c v' v2) : Lays W0 w W' c v v2 zs :=
  ⟨hr, h.wo.trans ho, h.bel.trans (ho.below hc h.bel.size h.wr.high)⟩
theorem Lays.more {W0 w W W' : World} {c : Nat} {v v' : Value} {ys : List UInt8} (h : Lays W0 w W c v v' ys) (hb : Below W.heap.size W W') : Lays W0 w W' c v v' ys :=
  ⟨h.wr.below hb, h.wo.over hb, h.bel.trans (hb.mono h.bel.size)⟩

set_option maxHeartbeats 1000000 in
theorem lay_strs (W0 w : World) (c : Nat) (v : Value) (xs : List UInt8) (p : Option Addr) (cap : Nat) (l : List (List UInt8)) (hb : Below W0.heap.size W0 w) (hc : W0.heap.size ≤ c) (h : Wr w c W0.heap.size v xs) (hv : StrsAt W0 (.slice p l.length cap) l) (hn : l.length < 65536)
    (hlen : xs.length + 2 + (l.flatMap nmB).length ≤ 140737488355328) :
    Calls Tryz.prog 24 #[.pointer (some ⟨c, 0, none⟩), .int .i64 2, .slice p l.length cap, .func (.func 23) #[.pointer (some ⟨c, 0, none⟩)] #[]] w fun e w' =>
      e = .returned (.tuple #[]) ∧ ∃ v', Lays W0 w w' c v v' (xs ++ lowB l.length 2 ++ l.flatMap nmB) := by
  have hw1 : IntKind.u64.wrap (l.length : Int) = l.length := IntWalk.u64_in _ (by omega)
  have H := hid (And.intro (Lays.start hb h) hv)
  clear hb h hv
  go_enter Tryz.func24, Tryz.ntmps24
  go_wp2_with fail
  refine (w_number _ c W0.heap.size v xs l.length 2 _ rfl (by omega) (by omega) H.out.1.wr (by omega) H.out.1.bel.size).mono ?_
  rintro e w1 ⟨rfl, v1, hwr, hwo⟩
  have H1 := hid (H.out.1.next hc hwr hwo)
  clear hwr hwo
  go_wp2_with fail
  go_loopw [18] (fun i wr => ∃ k : Nat, k ≤ l.length ∧ i = .int .i64 (k : Int) ∧ ∃ v', Lays W0 w wr c v v' (xs ++ lowB l.length 2 ++ (l.take k).flatMap nmB)) (fun i _ => l.length - (intOf i).toNat)
  case atStart => exact ⟨0, Nat.zero_le _, rfl, v1, by simpa using H1.out⟩
  case round =>
    obtain ⟨k, hk, rfl, v', hl⟩ := hrel
    by_cases hlt : k < l.length
    · obtain ⟨s, hs⟩ : ∃ s, l[k]? = some s := ⟨_, List.getElem?_eq_getElem hlt⟩
      obtain ⟨g, off, rfl, x0⟩ := StrsAt.cell (RowsAt.below H.out.2 hl.bel) hs
      have e1 := flat_snoc nmB hs
      have e2 := flat_take_le nmB l (k + 1)
      rw [e1, List.length_append, nmB_length] at e2
      have hlen2 : (xs ++ lowB l.length 2 ++ (l.take k).flatMap nmB).length + 2 + s.length ≤ 140737488355328 := by
        rw [List.length_append, List.length_append, lowB_length]; omega
      have Hl := hid (And.intro hl (And.intro e1 hlen2))
      clear hl e1 e2 hs hlen2
      go_wp2_with fail
      refine (w_name _ c W0.heap.size v' _ s Hl.out.1.wr Hl.out.2.2 Hl.out.1.bel.size).mono ?_
      rintro e w2 ⟨rfl, v2, hwr, hwo⟩
      have H2 := hid (Hl.out.1.next hc hwr hwo)
      clear hwr hwo
      go_wp2_with fail
      refine ⟨⟨k + 1, by omega, by go_num, v2, ?_⟩, by simp [intOf]; omega⟩
      rw [Hl.out.2.1, ← List.append_assoc]
      exact H2.out
    · have Hl := hid hl
      clear hl
      go_wp2_with fail
      go_end0
      refine ⟨rfl, v', ?_⟩
      have := Hl.out
      rwa [flat_all nmB (by omega)] at this

/-- What stands while a file is laid: the writer's box in K. -/
theorem Wrote.box {w w' : World} {c K : Nat} {v v' : Value} {o : Obj} (h : Wrote w w' c v v') (hK : w.heap[K]? = some o) (hc : K ≠ c) (hv : v.ownBlock ≠ some K) : w'.heap[K]? = some o :=
  (h.block K (Array.getElem?_eq_some_iff.1 hK).1 hc hv).trans hK
theorem Wrote.off {w w' : World} {c K : Nat} {v v' : Value} (h : Wrote w w' c v v') (hK : K < w.heap.size) (hv : v.ownBlock ≠ some K) : v'.ownBlock ≠ some K := by
  rcases h.lies with h1 | ⟨j, h1, h2⟩
  · rw [h1]; exact hv
  · rw [h1]; intro e; cases e; omega

set_option maxHeartbeats 1000000 in
theorem lay_file (W0 w : World) (c K : Nat) (v : Value) (xs nm bs : List UInt8) (q : Option Addr) (qc : Nat) (hb : Below W0.heap.size W0 w) (hc : W0.heap.size ≤ c) (h : Wr w c W0.heap.size v xs)
    (hK : w.heap[K]? = some (.cells #[.pointer (some ⟨c, 0, none⟩)] 57 (0, 0))) (hKc : K ≠ c) (hKv : v.ownBlock ≠ some K) (hx : BS W0 (.slice q bs.length qc) bs) (hnm : nm.length < 65536) (hbs : bs.length < 4294967296)
    (hlen : xs.length + (2 + nm.length + (4 + bs.length)) ≤ 140737488355328) :
    Calls Tryz.prog 26 #[.agg #[.string (mkS nm), .slice q bs.length qc], .pointer (some ⟨K, 0, none⟩)] w fun e w' =>
      e = .returned (.tuple #[]) ∧ ∃ v', Lays W0 w w' c v v' (xs ++ nmB nm ++ blB bs) := by
  have hlt : c < w.heap.size := h.lt
  have hKlt : K < w.heap.size := (Array.getElem?_eq_some_iff.1 hK).1
  have hvl := h.own.lt
  obtain ⟨o, ho⟩ : ∃ o, o = Obj.cells #[.string (mkS nm), .slice q bs.length qc] 39 := ⟨_, rfl⟩
  have hb1 : Below w.heap.size w (w.alloc o) := (Below.refl _ _).alloc (Nat.le_refl _) _
  have hbox : (w.alloc o).heap[w.heap.size]? = some o := heap_alloc_new w o
  have hK1 := (hb1.block K hKlt).trans hK
  have hs := (Lays.start hb h).more hb1
  have hsz : (w.alloc o).heap.size = w.heap.size + 1 := by simp
  rw [ho] at hbox hK1 hs hsz
  have k0 := cell_of_row _ K 0 _ _ _ hK1
  have y0 := cell_of_row _ w.heap.size 0 _ _ _ hbox
  have y1 := cell_of_row _ w.heap.size 1 _ _ _ hbox
  have H := hid (And.intro hs (And.intro hx (And.intro hbox (And.intro hK1 (And.intro hvl hsz)))))
  clear hs hx hbox hK1 hb h hK hvl hb1 hsz ho
  go_enter Tryz.func26, Tryz.ntmps26
  go_wp2_with fail
  refine (w_name _ c W0.heap.size v xs nm H.out.1.wr (by omega) H.out.1.bel.size).mono ?_
  rintro e w1 ⟨rfl, v1, hwr, hwo⟩
  have hvn : v.ownBlock ≠ some w.heap.size := fun e => by have := H.out.2.2.2.2.1 _ e; omega
  have hbox2 := hwo.box H.out.2.2.1 (by omega) hvn
  have hK2 := hwo.box H.out.2.2.2.1 hKc hKv
  clear k0 y0 y1
  have k0 := cell_of_row _ K 0 _ _ _ hK2
  have y0 := cell_of_row _ w.heap.size 0 _ _ _ hbox2
  have y1 := cell_of_row _ w.heap.size 1 _ _ _ hbox2
  have H1 := hid (H.out.1.next hc hwr hwo)
  clear hbox2 hK2 hwr hwo hvn
  go_wp2_with fail
  refine (w_blob _ c W0.heap.size v1 _ bs q qc (H.out.2.1.below H1.out.bel) ?ap H1.out.wr (by rw [List.length_append, nmB_length]; omega) H1.out.bel.size).mono ?_
  case ap =>
    intro k hk
    have hkl : k < W0.heap.size := by
      obtain ⟨p', cap', he, g1, g2, g3⟩ := H.out.2.1
      have hpos := inBlk_pos hk
      cases he
      obtain ⟨b, off, rfl, hcl⟩ := g3 (List.length_pos_iff.1 hpos)
      have h0 := World.block_lt_of_cell? W0 _ (hcl 0 _ (List.getElem?_eq_getElem hpos))
      have e : b = k := hk.2
      rw [← e]; simpa using h0
    exact ⟨by omega, fun e => by have := H1.out.wr.high _ e; omega⟩
  rintro e w2 ⟨rfl, v2, hwr, hwo⟩
  have H2 := hid (H1.out.next hc hwr hwo)
  clear hwr hwo
  go_wp2_with fail
  go_end0
  refine ⟨rfl, v2, ⟨H2.out.wr, ?_, H2.out.bel⟩⟩
  exact H2.out.wo
end Go.Proofs.YtfkpbgookilhjaaGreatDoor
