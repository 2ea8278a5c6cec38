/- slices.Sorted(maps.Keys(pages)), of a few pages. -/
import Derived.Test.YtacmjpkcimjjpaaItS
namespace Go.Proofs.Ytacmjpkcimjjpaa
set_option linter.unusedSimpArgs false
set_option linter.unusedVariables false
open Go.RowKit Go.Maps Go.Shelf

theorem enters_keys (args : Array Value) (w : World) : (callFunc 72 args).run Try.prog w = .ok (.enter 72 args) w :=
  enters_of Try.func72 (by kernel_rfl) rfl args w

/-- maps.Keys: the map is boxed. -/
theorem keys_fn (w : World) (b : Nat) : Calls Try.prog 66 #[.map (some b)] w fun e w' => e = .returned (.func (.func 72) #[] #[.pointer (some ⟨w.heap.size, 0, none⟩)]) ∧ w' = w.alloc (.cells #[.map (some b)] 90) := by
  go_enter Try.func66, Try.ntmps66
  go_wp2_with fail
  go_ret
  exact ⟨rfl, rfl⟩

def KeysEnd (n0 : Nat) (pgs : List Pg) (w : World) (e : Ending) (w' : World) : Prop :=
  ∃ v ys, e = .returned v ∧ ys.Perm (pgs.map (·.no)) ∧ w'.ownsRow n0 22 1 v ys.length (w64s ys) ∧ Below w.heap.size w w'

theorem ap_keys (w : World) (Bm b : Nat) (pgs : List Pg) (hm : w.cell? ⟨Bm, 0, none⟩ = some (.map (some b))) (hown : w.ownsMap Try.prog 22 pgElem b pgs.length (spD pgs)) (hp : pgs.Pairwise (fun x y => x.no ≠ y.no)) (hl : pgs.length ≤ 8192) :
    Calls Try.prog 78 #[.slice none 0 0, .func (.func 72) #[] #[.pointer (some ⟨Bm, 0, none⟩)]] w (KeysEnd w.heap.size pgs w) := by
  obtain ⟨ob, hob⟩ : ∃ ob, w.heap[b]? = some ob := ⟨_, Array.getElem?_eq_getElem hown.lt⟩
  refine (callsIn_wide (n := 3)).1 ((apSeq 3 w enters_keys (keys_seq 2 Bm b pgs ob hp) ⟨hob, hm, hown⟩ ?_ (fun k hk => hk ▸ hown.lt) ?_ (fun _ _ _ _ _ _ _ _ _ => trivial) (by omega)).mono ?_)
  · rintro W o ⟨h1, h2, h3⟩
    have hb : Below W.heap.size W (W.alloc o) := (Below.refl _ _).alloc (Nat.le_refl _) _
    exact ⟨(hb.block b (Array.getElem?_eq_some_iff.1 h1).1).trans h1, below_cell' hb (World.block_lt_of_cell? W _ h2) h2, h3.alloc _⟩
  · rintro xs W l o o' ⟨h1, h2⟩ hl ho hoc
    exact ⟨h1, (World.putObj_heap_other (by have := hown.lt; omega)).trans h2⟩
  · rintro e w' ⟨v, xs, M, rfl, ⟨h1, h2⟩, h3, h4⟩
    refine ⟨v, xs, rfl, h1, h3, h4.os, h4.tape, h4.output, h4.size, fun k hk => ?_⟩
    by_cases e : k = b
    · subst e; exact h2.trans hob.symm
    · exact h4.keep k hk e

theorem col_keys (w : World) (Bm b : Nat) (pgs : List Pg) (hm : w.cell? ⟨Bm, 0, none⟩ = some (.map (some b))) (hown : w.ownsMap Try.prog 22 pgElem b pgs.length (spD pgs)) (hp : pgs.Pairwise (fun x y => x.no ≠ y.no)) (hl : pgs.length ≤ 8192) :
    Calls Try.prog 70 #[.func (.func 72) #[] #[.pointer (some ⟨Bm, 0, none⟩)]] w (KeysEnd w.heap.size pgs w) := by
  have H := hid (ap_keys w Bm b pgs hm hown hp hl)
  clear hm hown hp hl
  go_enter Try.func70, Try.ntmps70
  go_wp2_with fail
  refine H.out.mono ?_
  rintro e w1 ⟨v, ys, rfl, h⟩
  obtain ⟨p, cap, rfl⟩ := ownsRow_form h.2.1
  have HY := hid h
  clear h
  go_wp2_with fail
  go_ret
  exact ⟨_, ys, rfl, HY.out⟩

/-- The keys, rising. -/
def SortedEnd (n0 : Nat) (pgs : List Pg) (w : World) (e : Ending) (w' : World) : Prop :=
  ∃ v ys, e = .returned v ∧ ys.Perm (pgs.map (·.no)) ∧ ys.Pairwise (· ≤ ·) ∧ w'.ownsRow n0 22 1 v ys.length (w64s ys) ∧ Below w.heap.size w w'

theorem sorted_keys (w : World) (Bm b : Nat) (pgs : List Pg) (hm : w.cell? ⟨Bm, 0, none⟩ = some (.map (some b))) (hown : w.ownsMap Try.prog 22 pgElem b pgs.length (spD pgs)) (hp : pgs.Pairwise (fun x y => x.no ≠ y.no)) (hl : pgs.length ≤ 12) :
    Calls Try.prog 65 #[.func (.func 72) #[] #[.pointer (some ⟨Bm, 0, none⟩)]] w (SortedEnd w.heap.size pgs w) := by
  have H := hid (col_keys w Bm b pgs hm hown hp (by omega))
  clear hm hown hp
  go_enter Try.func65, Try.ntmps65
  go_wp2_with fail
  refine H.out.mono ?_
  rintro e w1 ⟨v, ys, rfl, h⟩
  obtain ⟨p, cap, rfl⟩ := ownsRow_form h.2.1
  have hlen : ys.length ≤ 12 := by rw [h.1.length_eq, List.length_map]; exact hl
  have HS := hid (sort_few w1 w.heap.size ys.length _ ys h.2.1 hlen)
  have HY := hid h
  clear h hlen
  go_wp2_with fail
  refine HS.out.mono ?_
  rintro e w2 ⟨rfl, zs, h1, h2, h3, h4⟩
  have HZ := hid (And.intro h1 (And.intro h2 (And.intro h3 h4)))
  clear h1 h2 h3 h4
  go_wp2_with fail
  go_ret
  obtain ⟨z1, z2, z3, z4⟩ := HZ.out
  refine ⟨_, zs, rfl, z1.trans HY.out.1, z2, by rw [z1.length_eq]; exact z3, HY.out.2.2.grown z4 HY.out.2.2.size (fun k hk => (HY.out.2.1.lt k hk).1)⟩
end Go.Proofs.Ytacmjpkcimjjpaa
