/- Few exports, of short names. -/
import Derived.Test.YtipgcdpmkpjokaaDoorTMayR
namespace Go.Proofs.YtipgcdpmkpjokaaDoor
set_option linter.unusedSimpArgs false
set_option linter.unusedVariables false
open Go.RowKit

def longE (x : Exp) : Bool := decide (400 < x.name.length ∨ 400 < x.other.length)
def fewB (l : List Exp) (most : Nat) : Bool := !l.any longE && decide (l.length ≤ most)

set_option maxHeartbeats 1000000 in
theorem tr_few (w : World) (v : Value) (l : List Exp) (most : Nat) (h : ES w v l) (hm : most ≤ 5000) :
    Calls Tryd.prog 7 #[v, .int .i64 (most : Nat)] w fun e w' => e = .returned (.bool (fewB l most)) ∧ w = w' := by
  obtain ⟨a, cap, rfl⟩ := h.form
  have hl := h.len
  have H := hid h
  clear h
  go_enter Tryd.func7, Tryd.ntmps7
  go_wp2_with fail
  go_loop [5] (fun i => ∃ k : Nat, k ≤ l.length ∧ i = .int .i64 (k : Int) ∧ Aside ((l.take k).any longE = false)) (fun i => l.length - (intOf i).toNat)
  case atStart => exact ⟨0, Nat.zero_le _, rfl, rfl⟩
  case round =>
    obtain ⟨k, hk, rfl, ha⟩ := hrel
    have Ha := hid ha.out
    clear ha
    by_cases hlt : k < l.length
    · obtain ⟨x, hx⟩ : ∃ x, l[k]? = some x := ⟨_, List.getElem?_eq_getElem hlt⟩
      obtain ⟨g, off, rfl, x0, x1, x2, x3, x4, x5, x6⟩ := H.out.at hx
      have hmem := List.mem_of_getElem? hx
      have Hx := hid (And.intro hx hmem)
      clear hx hmem x1 x2 x3 x4 x5
      by_cases h0 : 400 < x.name.length
      · have hd : decide ((400 : Int) < (x.name.length : Int)) = true := by simp; omega
        have hf : fewB l most = false := by
          unfold fewB
          rw [show l.any longE = true from List.any_eq_true.2 ⟨x, Hx.out.2, by unfold longE; simp; omega⟩]; rfl
        have Hf := hid hf
        clear hf h0
        go_wp2
        go_ret
        rw [Hf.out]
        exact ⟨rfl, rfl⟩
      · have hd : decide ((400 : Int) < (x.name.length : Int)) = false := by simp; omega
        by_cases h6 : 400 < x.other.length
        · have hd6 : decide ((400 : Int) < (x.other.length : Int)) = true := by simp; omega
          have hf : fewB l most = false := by
            unfold fewB
            rw [show l.any longE = true from List.any_eq_true.2 ⟨x, Hx.out.2, by unfold longE; simp; omega⟩]; rfl
          have Hf := hid hf
          clear hf h0 h6
          go_wp2
          go_ret
          rw [Hf.out]
          exact ⟨rfl, rfl⟩
        · have hd6 : decide ((400 : Int) < (x.other.length : Int)) = false := by simp; omega
          have hs : (l.take (k + 1)).any longE = false := by
            rw [take_snoc Hx.out.1, List.any_append, Ha.out]
            simp [longE]; omega
          have Hs := hid hs
          clear hs h0 h6
          go_wp2
          go_round
          case rel => exact ⟨k + 1, by omega, by go_num, Hs.out⟩
          case measure => simp [intOf]; omega
    · obtain rfl : k = l.length := by omega
      have hf : fewB l most = decide (l.length ≤ most) := by
        have := Ha.out
        rw [List.take_length] at this
        unfold fewB; rw [this]; rfl
      have Hf := hid hf
      clear hf
      go_wp2
      go_ret
      rw [Hf.out]
      exact ⟨rfl, rfl⟩

/-- What stands while TrieMay goes on. -/
structure MayIn (w W : World) (X : Nat) (x : Exp) : Prop where
  et : ET W
  row : RowAt W X 25 #[.string (mkS x.name), .int .i64 x.kind, .bool x.weak, .int .u64 (x.value : Int), .int .u64 (x.resolver : Int), .int .u64 (x.ordinal : Int), .string (mkS x.other)]
  below : Below w.heap.size w W

theorem MayIn.all {w W : World} {X : Nat} {x : Exp} (h : MayIn w W X x) : W.cell? ⟨X, 0, none⟩ = some (.string (mkS x.name)) ∧ W.cell? ⟨X, 1, none⟩ = some (.int .i64 x.kind) ∧ W.cell? ⟨X, 2, none⟩ = some (.bool x.weak) ∧ W.cell? ⟨X, 3, none⟩ = some (.int .u64 (x.value : Int)) ∧ W.cell? ⟨X, 4, none⟩ = some (.int .u64 (x.resolver : Int)) ∧ W.cell? ⟨X, 5, none⟩ = some (.int .u64 (x.ordinal : Int)) ∧ W.cell? ⟨X, 6, none⟩ = some (.string (mkS x.other)) :=
  ⟨cell_of_row _ _ 0 _ _ _ h.row, cell_of_row _ _ 1 _ _ _ h.row, cell_of_row _ _ 2 _ _ _ h.row, cell_of_row _ _ 3 _ _ _ h.row, cell_of_row _ _ 4 _ _ _ h.row, cell_of_row _ _ 5 _ _ _ h.row, cell_of_row _ _ 6 _ _ _ h.row⟩

theorem MayIn.next {w W W' : World} {X : Nat} {x : Exp} (h : MayIn w W X x) (hb : Below W.heap.size W W') : MayIn w W' X x :=
  ⟨h.et.below hb, (hb.block X h.row.lt).trans h.row, h.below.trans (hb.mono h.below.size)⟩

theorem MayIn.alloc {w W : World} {X : Nat} {x : Exp} (h : MayIn w W X x) (o : Obj) : MayIn w (W.alloc o) X x := h.next ((Below.refl _ _).alloc (Nat.le_refl _) _)

theorem tr_few1 (W : World) (x : Exp) : Calls Tryd.prog 7 #[.slice (some ⟨W.heap.size, 0, none⟩) 1 1, .int .i64 1] (W.alloc (.cells #[.string (mkS x.name), .int .i64 x.kind, .bool x.weak, .int .u64 (x.value : Int), .int .u64 (x.resolver : Int), .int .u64 (x.ordinal : Int), .string (mkS x.other)] 25)) fun e w' => e = .returned (.bool (fewB [x] 1)) ∧ Below W.heap.size W w' := by
  refine (tr_few _ _ [x] 1 (ES.lit W [x] 25 (by simp)) (by omega)).mono ?_
  rintro e w' ⟨rfl, rfl⟩
  exact ⟨rfl, (Below.refl _ _).alloc (Nat.le_refl _) _⟩

theorem tr_few2 (W : World) (x : Exp) : Calls Tryd.prog 7 #[.slice (some ⟨W.heap.size, 0, none⟩) 1 1, .int .i64 1] (W.alloc (.cells #[.string (mkS x.name), .int .i64 x.kind, .bool x.weak, .int .u64 (x.value : Int), .int .u64 (x.resolver : Int), .int .u64 (x.ordinal : Int), .string (mkS x.other)] 25)).drew fun e w' => e = .returned (.bool (fewB [x] 1)) ∧ Below W.heap.size W w' := by
  refine (tr_few _ _ [x] 1 (ES.lit W.drew [x] 25 (by simp)) (by omega)).mono ?_
  rintro e w' ⟨rfl, rfl⟩
  exact ⟨rfl, (Below.refl W.heap.size W).drew.alloc (Nat.le_refl _) _⟩

theorem may_lit (W : World) (x : Exp) : Calls Tryd.prog 9 #[.agg #[.string (mkS x.name), .int .i64 x.kind, .bool x.weak, .int .u64 (x.value : Int), .int .u64 (x.resolver : Int), .int .u64 (x.ordinal : Int), .string (mkS x.other)]] W fun e w' => e = .returned (.bool (mayE x)) ∧ Below W.heap.size W w' := trie_may W x
theorem rmay_lit (W : World) (x : Exp) (hn : x.name.length ≤ 140737488355328) (ho : x.other.length ≤ 140737488355328) : Calls Tryd.prog 10 #[.agg #[.string (mkS x.name), .int .i64 x.kind, .bool x.weak, .int .u64 (x.value : Int), .int .u64 (x.resolver : Int), .int .u64 (x.ordinal : Int), .string (mkS x.other)]] W fun e w' => e = .returned (.bool (mayE x)) ∧ Below W.heap.size W w' := ref_may W x hn ho

section
attribute [local go_sem] undef
set_option maxRecDepth 100000 in
set_option maxHeartbeats 4000000 in
theorem tr_may_no (w : World) (x : Exp) (het : ET w) (hbf : fewB [x] 1 = false) :
    Calls Tryd.prog 3 #[.agg x.cells.toArray] w fun e w' => e = .returned (.bool true) ∧ Below w.heap.size w w' := by
  show Calls Tryd.prog 3 #[.agg #[.string (mkS x.name), .int .i64 x.kind, .bool x.weak, .int .u64 (x.value : Int), .int .u64 (x.resolver : Int), .int .u64 (x.ordinal : Int), .string (mkS x.other)]] w _
  have hi0 : MayIn w (w.alloc (.cells #[.string (mkS x.name), .int .i64 x.kind, .bool x.weak, .int .u64 (x.value : Int), .int .u64 (x.resolver : Int), .int .u64 (x.ordinal : Int), .string (mkS x.other)] 25)) w.heap.size x :=
    ⟨ET.below het (under_alloc (under_refl w) _), heap_alloc_new w _, under_alloc (under_refl w) _⟩
  obtain ⟨W0, hW0⟩ : ∃ W0, W0 = w.alloc (.cells #[.string (mkS x.name), .int .i64 x.kind, .bool x.weak, .int .u64 (x.value : Int), .int .u64 (x.resolver : Int), .int .u64 (x.ordinal : Int), .string (mkS x.other)] 25) := ⟨_, rfl⟩
  obtain ⟨X, hX⟩ : ∃ X, X = w.heap.size := ⟨_, rfl⟩
  rw [← hW0, ← hX] at hi0
  have hi : MayIn w W0 X x := hi0
  have HW := hid (And.intro hW0 hX)
  clear hi0 hW0 hX
  have hf1 := fun W => And.intro (tr_few1 W x) (tr_few2 W x)
  simp only [hbf] at hf1
  have hm1 := fun W => may_lit W x
  have hm2 := fun W => may_lit W x
  obtain ⟨m, hm⟩ : ∃ m, m = mayE x := ⟨_, rfl⟩
  simp only [← hm] at hm1 hm2
  have H := hid (And.intro hi (And.intro hf1 (And.intro hm1 hm2)))
  clear hi hf1 hm1 hm2 hbf hm het
  go_enter Tryd.func3, Tryd.ntmps3
  go_wp2_with fail
  rw [← HW.out.1, ← HW.out.2]
  have hi := H.out.1
  obtain ⟨z0, z1, z2, z3, z4, z5, z6⟩ := hi.all
  first
  | go_region_with (first
    | (go_at_call 7; (first | (with_reducible refine (H.out.2.1 _).1.mono ?_) | (with_reducible refine (H.out.2.1 _).2.mono ?_)); rintro e w5 ⟨rfl, hb⟩; have hi := hi.next hb; obtain ⟨z0, z1, z2, z3, z4, z5, z6⟩ := hi.all; clear hb)
    | (go_at_call 8; (with_reducible refine (trie_known _ hi.et).mono ?_); rintro e w5 ⟨rfl, hb⟩; have hi := hi.next hb; obtain ⟨z0, z1, z2, z3, z4, z5, z6⟩ := hi.all; clear hb)
    | (go_at_call 9; (with_reducible refine (H.out.2.2.1 _).mono ?_); rintro e w5 ⟨rfl, hb⟩; have hi := hi.next hb; obtain ⟨z0, z1, z2, z3, z4, z5, z6⟩ := hi.all; clear hb)
    | (go_at_call 10; (with_reducible refine (H.out.2.2.2 _).mono ?_); rintro e w5 ⟨rfl, hb⟩; have hi := hi.next hb; obtain ⟨z0, z1, z2, z3, z4, z5, z6⟩ := hi.all; clear hb)
    | fail "no call")
  | fail "region"
  all_goals
    have Hi := hid hi.below
    clear hi
    go_wp2_with fail
    go_ret
    exact ⟨rfl, Hi.out⟩
end

set_option maxRecDepth 100000 in
set_option maxHeartbeats 4000000 in
theorem tr_may_yes (w : World) (x : Exp) (het : ET w) (hbf : fewB [x] 1 = true) :
    Calls Tryd.prog 3 #[.agg x.cells.toArray] w fun e w' => e = .returned (.bool true) ∧ Below w.heap.size w w' := by
  show Calls Tryd.prog 3 #[.agg #[.string (mkS x.name), .int .i64 x.kind, .bool x.weak, .int .u64 (x.value : Int), .int .u64 (x.resolver : Int), .int .u64 (x.ordinal : Int), .string (mkS x.other)]] w _
  have hi0 : MayIn w (w.alloc (.cells #[.string (mkS x.name), .int .i64 x.kind, .bool x.weak, .int .u64 (x.value : Int), .int .u64 (x.resolver : Int), .int .u64 (x.ordinal : Int), .string (mkS x.other)] 25)) w.heap.size x :=
    ⟨ET.below het (under_alloc (under_refl w) _), heap_alloc_new w _, under_alloc (under_refl w) _⟩
  obtain ⟨W0, hW0⟩ : ∃ W0, W0 = w.alloc (.cells #[.string (mkS x.name), .int .i64 x.kind, .bool x.weak, .int .u64 (x.value : Int), .int .u64 (x.resolver : Int), .int .u64 (x.ordinal : Int), .string (mkS x.other)] 25) := ⟨_, rfl⟩
  obtain ⟨X, hX⟩ : ∃ X, X = w.heap.size := ⟨_, rfl⟩
  rw [← hW0, ← hX] at hi0
  have hi : MayIn w W0 X x := hi0
  have HW := hid (And.intro hW0 hX)
  clear hi0 hW0 hX
  have hf1 := fun W => And.intro (tr_few1 W x) (tr_few2 W x)
  simp only [hbf] at hf1
  have hm1 := fun W => may_lit W x
  have hshort : x.name.length ≤ 400 ∧ x.other.length ≤ 400 := by
    have h := hbf
    unfold fewB at h
    simp [longE] at h
    omega
  have hm2 := fun W => rmay_lit W x (by omega) (by omega)
  obtain ⟨m, hm⟩ : ∃ m, m = mayE x := ⟨_, rfl⟩
  simp only [← hm] at hm1 hm2
  have H := hid (And.intro hi (And.intro hf1 (And.intro hm1 hm2)))
  clear hi hf1 hm1 hm2 hbf hm het hshort
  go_enter Tryd.func3, Tryd.ntmps3
  go_wp2_with fail
  rw [← HW.out.1, ← HW.out.2]
  have hi := H.out.1
  first
  | go_region_held3 (fun W => W.cell? ⟨X, 0, none⟩ = some (.string (mkS x.name)) ∧ W.cell? ⟨X, 1, none⟩ = some (.int .i64 x.kind) ∧ W.cell? ⟨X, 2, none⟩ = some (.bool x.weak) ∧ W.cell? ⟨X, 3, none⟩ = some (.int .u64 (x.value : Int)) ∧ W.cell? ⟨X, 4, none⟩ = some (.int .u64 (x.resolver : Int)) ∧ W.cell? ⟨X, 5, none⟩ = some (.int .u64 (x.ordinal : Int)) ∧ W.cell? ⟨X, 6, none⟩ = some (.string (mkS x.other))) (first | exact hi.all | exact (hi.alloc _).all) (first
    | (go_at_call 7; (first | (with_reducible refine (H.out.2.1 _).1.mono ?_) | (with_reducible refine (H.out.2.1 _).2.mono ?_)); rintro e w5 ⟨rfl, hb⟩; have hi := hi.next hb; clear hb)
    | (go_at_call 8; (with_reducible refine (trie_known _ hi.et).mono ?_); rintro e w5 ⟨rfl, hb⟩; have hi := hi.next hb; clear hb)
    | (go_at_call 9; (with_reducible refine (H.out.2.2.1 _).mono ?_); rintro e w5 ⟨rfl, hb⟩; have hi := hi.next hb; clear hb)
    | (go_at_call 10; (with_reducible refine (H.out.2.2.2 _).mono ?_); rintro e w5 ⟨rfl, hb⟩; have hi := hi.next hb; clear hb)
    | fail "no call")
  | fail "region"
  all_goals
    have Hi := hid hi.below
    clear hi
    go_wp2_with fail
    go_ret
    exact ⟨rfl, Hi.out⟩

theorem tr_may_law (w : World) (x : Exp) (het : ET w) :
    Calls Tryd.prog 3 #[.agg x.cells.toArray] w fun e w' => e = .returned (.bool true) ∧ Below w.heap.size w w' := by
  cases h : fewB [x] 1 with
  | false => exact tr_may_no w x het h
  | true => exact tr_may_yes w x het h
end Go.Proofs.YtipgcdpmkpjokaaDoor
