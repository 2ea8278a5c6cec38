/- The law TrieFinds: the walk. -/
import Derived.Test.YtipgcdpmkpjokaaDoorFindB
import Derived.Test.YtipgcdpmkpjokaaDoorFindP
import Derived.Test.YtipgcdpmkpjokaaDoorSameE
import Derived.Sort.Walk0
namespace Go.Proofs.YtipgcdpmkpjokaaDoor
set_option linter.unusedSimpArgs false
set_option linter.unusedVariables false
open Go.RowKit Go.Sort

/-- So far each is found. -/
def FWRel (w1 wr : World) (L : List Exp) (name : List UInt8) (t i : Value) : Prop :=
  ∃ j, j ≤ L.length ∧ i = .int .i64 (j : Int) ∧ t = .bool ((L.take j).any (fun x => x.name == name)) ∧ Below w1.heap.size w1 wr

theorem any_take {L : List Exp} {j : Nat} {x : Exp} (hx : L[j]? = some x) (p : Exp → Bool) : (L.take (j + 1)).any p = ((L.take j).any p || p x) := by
  rw [List.take_add_one, hx]; simp

set_option maxHeartbeats 2000000 in
set_option maxRecDepth 4000 in
theorem tr_finds_law (w : World) (p : Option Addr) (n cap : Nat) (l name : List UInt8) (h : BS w (.slice p n cap) l) (het : ET w) :
    Calls Tryd.prog 5 #[.slice p n cap, .string (mkS name)] w fun e w' => e = .returned (.bool true) ∧ Below w.heap.size w w' := by
  obtain rfl := h.len
  have hcp := h.cap
  by_cases hA : 3000 < l.length
  · have hd1 : decide ((3000 : Int) < (l.length : Int)) = true := by simp; omega
    have hd2 : decide (3000 < l.length) = true := by simp; omega
    have H := hid het
    clear h het hA
    go_enter Tryd.func5, Tryd.ntmps5
    go_wp2_with fail
    refine (trie_known _ H.out).mono ?_
    rintro e w1 ⟨rfl, hb⟩
    go_wp2_with fail
    go_ret
    exact ⟨rfl, hb⟩
  have hd1 : decide ((3000 : Int) < (l.length : Int)) = false := by simp; omega
  have hd2 : decide (3000 < l.length) = false := by simp; omega
  by_cases hB : 255 < name.length
  · have hd3 : decide ((255 : Int) < (name.length : Int)) = true := by simp; omega
    have hd4 : decide (255 < name.length) = true := by simp; omega
    have H := hid het
    clear h het hA hB
    go_enter Tryd.func5, Tryd.ntmps5
    go_wp2_with fail
    refine (trie_known _ H.out).mono ?_
    rintro e w1 ⟨rfl, hb⟩
    go_wp2_with fail
    go_ret
    exact ⟨rfl, hb⟩
  have hd3 : decide ((255 : Int) < (name.length : Int)) = false := by simp; omega
  have hd4 : decide (255 < name.length) = false := by simp; omega
  have H := hid (And.intro h (And.intro het hB))
  clear h het hA hB
  go_enter Tryd.func5, Tryd.ntmps5
  go_wp2_with fail
  refine (trie_all w p l.length cap l H.out.1 H.out.2.1).mono ?_
  rintro e w1 ⟨v, rfl, hes, hb1⟩
  obtain ⟨L, hL⟩ : ∃ L, L = (allS l).2 := ⟨_, rfl⟩
  obtain ⟨E, hE⟩ : ∃ E, E = (allS l).1 := ⟨_, rfl⟩
  rw [← hL] at hes
  rw [← hE]
  by_cases hz : E = 0
  · subst hz
    have hfew : L.length ≤ 4096 := by rw [hL]; exact finds_few l
    obtain ⟨a, ac, rfl⟩ := hes.form
    have hat : ∀ x, x ∈ L → findT l x.name = (x, true, 0) := fun x hx => by
      rw [hL] at hx
      exact finds_at hE.symm hx (finds_short hx)
    have his : (findT l name).2 = (L.any (fun x => x.name == name), 0) := by
      rw [hL]
      have := H.out.2.2
      exact finds_is hE.symm (by omega)
    have hlt : ∀ j x y, L[j]? = some x → L[j + 1]? = some y → ltStr x.name y.name = true := fun j x y hx hy => by
      rw [hL] at hx hy
      exact finds_lt hx hy
    have H1 := hid (And.intro hes (And.intro hb1 (And.intro hat (And.intro his hlt))))
    clear hes hb1 hat his hlt hL hE
    go_wp2_with fail
    go_loopw [7, 8] (fun t i wr => FWRel w1 wr L name t i) (fun _ i _ => L.length - (intOf i).toNat)
    case atStart => exact ⟨0, Nat.zero_le _, rfl, rfl, Below.refl _ _⟩
    case round =>
      obtain ⟨j, hj, rfl, rfl, hb⟩ := hrel
      have hes := H1.out.1.below hb
      have hbs := (H.out.1.below H1.out.2.1).below hb
      have het2 := (H.out.2.1.below H1.out.2.1).below hb
      have H2 := hid (And.intro hb (And.intro hes (And.intro hbs het2)))
      clear hb hes hbs het2
      obtain ⟨T, hT⟩ : ∃ T, T = (L.take j).any (fun x => x.name == name) := ⟨_, rfl⟩
      rw [← hT]
      have HT := hid hT
      clear hT
      by_cases hjl : j < L.length
      · obtain ⟨x, hx⟩ : ∃ x, L[j]? = some x := ⟨_, List.getElem?_eq_getElem hjl⟩
        obtain ⟨g, off, rfl, x0, x1, x2, x3, x4, x5, x6⟩ := H2.out.2.1.at hx
        have hfd := fun q => trie_find (wr.drewN q) p l.length cap l x.name (H2.out.2.2.1.heap rfl) (H2.out.2.2.2.heap rfl)
        simp only [H1.out.2.2.1 x (List.mem_of_getElem? hx)] at hfd
        have H3 := hid (And.intro hx hfd)
        rcases Nat.eq_zero_or_pos j with hj0 | hj0
        · have hd5 : decide ((0 : Int) < (j : Int)) = false := by simp; omega
          have hd6 : decide (0 < j) = false := by simp; omega
          clear hx hfd hj0
          go_wp2_with fail
          go_quiet (fail)
          go_wp2_with fail
          refine (H3.out.2 _).mono ?_
          rintro e w3 ⟨rfl, hb3⟩
          have hb3' : Below wr.heap.size wr w3 := ⟨hb3.os, hb3.tape, hb3.output, hb3.size, hb3.block⟩
          have hba : Below w3.heap.size w3 (w3.alloc (.cells x.cells.toArray 25)) := (Below.refl _ _).alloc (Nat.le_refl _) _
          have hes4 := (H2.out.2.1.below hb3').below hba
          have hrow : RowAt (w3.alloc (.cells x.cells.toArray 25)) w3.heap.size 25 x.cells.toArray := heap_alloc_new w3 _
          have hb4 := hb3'.trans (hba.mono hb3'.size)
          clear x0 x1 x2 x3 x4 x5 x6 hb3 hb3' hba
          have hzc : x.cells.toArray = #[.string (mkS x.name), .int .i64 x.kind, .bool x.weak, .int .u64 x.value, .int .u64 x.resolver, .int .u64 x.ordinal, .string (mkS x.other)] := rfl
          rw [hzc]
          clear hzc
          go_upto_region 13 with fail
          obtain ⟨N, hN⟩ : ∃ N, N = w3.heap.size := ⟨_, rfl⟩
          obtain ⟨W5, hW5⟩ : ∃ W5, W5 = w3.alloc (.cells x.cells.toArray 25) := ⟨_, rfl⟩
          rw [← hN, ← hW5] at hrow
          rw [← hW5] at hes4 hb4
          rw [← hN]
          rw [show w3.alloc (.cells #[.string (mkS x.name), .int .i64 x.kind, .bool x.weak, .int .u64 (x.value : Int), .int .u64 (x.resolver : Int), .int .u64 (x.ordinal : Int), .string (mkS x.other)] 25) = W5 from hW5.symm]
          obtain ⟨g3, off3, hg3, z0, z1, z2, z3, z4, z5, z6⟩ := hes4.at H3.out.1
          cases hg3
          have n0 : W5.cell? ⟨N, 0, none⟩ = some (.string (mkS x.name)) := cell_of_row W5 N 0 _ _ _ hrow
          have n1 : W5.cell? ⟨N, 1, none⟩ = some (.int .i64 x.kind) := cell_of_row W5 N 1 _ _ _ hrow
          have n2 : W5.cell? ⟨N, 2, none⟩ = some (.bool x.weak) := cell_of_row W5 N 2 _ _ _ hrow
          have n3 : W5.cell? ⟨N, 3, none⟩ = some (.int .u64 (x.value : Int)) := cell_of_row W5 N 3 _ _ _ hrow
          have n4 : W5.cell? ⟨N, 4, none⟩ = some (.int .u64 (x.resolver : Int)) := cell_of_row W5 N 4 _ _ _ hrow
          have n5 : W5.cell? ⟨N, 5, none⟩ = some (.int .u64 (x.ordinal : Int)) := cell_of_row W5 N 5 _ _ _ hrow
          have n6 : W5.cell? ⟨N, 6, none⟩ = some (.string (mkS x.other)) := cell_of_row W5 N 6 _ _ _ hrow
          have H5 := hid (H2.out.1.trans (hb4.mono H2.out.1.size))
          clear hN hW5 hrow hes4 hb4
          go_quiet (fail)
          go_wp2_with fail
          all_goals
            refine ⟨⟨_, hjl, by go_num, ?_, ⟨H5.out.os, H5.out.tape, H5.out.output, H5.out.size, H5.out.block⟩⟩, by simp [intOf]; omega⟩
            first
            | (rw [any_take H3.out.1, ← HT.out]; simp; done)
            | (rw [any_take H3.out.1, ← HT.out]; simp [*]; done)
        · obtain ⟨m, rfl⟩ : ∃ m, j = m + 1 := ⟨j - 1, by omega⟩
          obtain ⟨y, hy⟩ : ∃ y, L[m]? = some y := ⟨_, List.getElem?_eq_getElem (by omega)⟩
          obtain ⟨g2, off2, hg2, y0, y1, y2, y3, y4, y5, y6⟩ := H2.out.2.1.at hy
          cases hg2
          have e1 : Op.bytesLess y.name x.name = true := (show Op.bytesLess y.name x.name = ltStr y.name x.name from bytesLess_eq _ _).trans (H1.out.2.2.2.2 m y x hy hx)
          clear hx hy hfd
          go_wp2_with fail
          go_quiet (fail)
          go_wp2_with fail
          refine (H3.out.2 _).mono ?_
          rintro e w3 ⟨rfl, hb3⟩
          have hb3' : Below wr.heap.size wr w3 := ⟨hb3.os, hb3.tape, hb3.output, hb3.size, hb3.block⟩
          have hba : Below w3.heap.size w3 (w3.alloc (.cells x.cells.toArray 25)) := (Below.refl _ _).alloc (Nat.le_refl _) _
          have hes4 := (H2.out.2.1.below hb3').below hba
          have hrow : RowAt (w3.alloc (.cells x.cells.toArray 25)) w3.heap.size 25 x.cells.toArray := heap_alloc_new w3 _
          have hb4 := hb3'.trans (hba.mono hb3'.size)
          clear y0 y1 y2 y3 y4 y5 y6 e1 x0 x1 x2 x3 x4 x5 x6 hb3 hb3' hba
          have hzc : x.cells.toArray = #[.string (mkS x.name), .int .i64 x.kind, .bool x.weak, .int .u64 x.value, .int .u64 x.resolver, .int .u64 x.ordinal, .string (mkS x.other)] := rfl
          rw [hzc]
          clear hzc
          go_upto_region 13 with fail
          obtain ⟨N, hN⟩ : ∃ N, N = w3.heap.size := ⟨_, rfl⟩
          obtain ⟨W5, hW5⟩ : ∃ W5, W5 = w3.alloc (.cells x.cells.toArray 25) := ⟨_, rfl⟩
          rw [← hN, ← hW5] at hrow
          rw [← hW5] at hes4 hb4
          rw [← hN]
          rw [show w3.alloc (.cells #[.string (mkS x.name), .int .i64 x.kind, .bool x.weak, .int .u64 (x.value : Int), .int .u64 (x.resolver : Int), .int .u64 (x.ordinal : Int), .string (mkS x.other)] 25) = W5 from hW5.symm]
          obtain ⟨g3, off3, hg3, z0, z1, z2, z3, z4, z5, z6⟩ := hes4.at H3.out.1
          cases hg3
          have n0 : W5.cell? ⟨N, 0, none⟩ = some (.string (mkS x.name)) := cell_of_row W5 N 0 _ _ _ hrow
          have n1 : W5.cell? ⟨N, 1, none⟩ = some (.int .i64 x.kind) := cell_of_row W5 N 1 _ _ _ hrow
          have n2 : W5.cell? ⟨N, 2, none⟩ = some (.bool x.weak) := cell_of_row W5 N 2 _ _ _ hrow
          have n3 : W5.cell? ⟨N, 3, none⟩ = some (.int .u64 (x.value : Int)) := cell_of_row W5 N 3 _ _ _ hrow
          have n4 : W5.cell? ⟨N, 4, none⟩ = some (.int .u64 (x.resolver : Int)) := cell_of_row W5 N 4 _ _ _ hrow
          have n5 : W5.cell? ⟨N, 5, none⟩ = some (.int .u64 (x.ordinal : Int)) := cell_of_row W5 N 5 _ _ _ hrow
          have n6 : W5.cell? ⟨N, 6, none⟩ = some (.string (mkS x.other)) := cell_of_row W5 N 6 _ _ _ hrow
          have H5 := hid (H2.out.1.trans (hb4.mono H2.out.1.size))
          clear hN hW5 hrow hes4 hb4
          go_quiet (fail)
          go_wp2_with fail
          all_goals
            refine ⟨⟨_, hjl, by go_num, ?_, ⟨H5.out.os, H5.out.tape, H5.out.output, H5.out.size, H5.out.block⟩⟩, by simp [intOf]; omega⟩
            first
            | (rw [any_take H3.out.1, ← HT.out]; simp; done)
            | (rw [any_take H3.out.1, ← HT.out]; simp [*]; done)
      · obtain rfl : j = L.length := by omega
        have hd5 : decide ((L.length : Int) < (L.length : Int)) = false := by simp
        obtain ⟨z, hz⟩ : ∃ z, findT l name = (z, T, 0) := by
          refine ⟨(findT l name).1, Prod.ext rfl ?_⟩
          rw [H1.out.2.2.2.1, HT.out, List.take_length]
        have hfd := trie_find wr p l.length cap l name H2.out.2.2.1 H2.out.2.2.2
        rw [hz] at hfd
        have hzc : z.cells.toArray = #[.string (mkS z.name), .int .i64 z.kind, .bool z.weak, .int .u64 z.value, .int .u64 z.resolver, .int .u64 z.ordinal, .string (mkS z.other)] := rfl
        rw [hzc] at hfd
        clear hzc hz
        have H3 := hid hfd
        clear hfd
        go_wp2_with fail
        refine H3.out.mono ?_
        rintro e w3 ⟨rfl, hb3⟩
        have hba : Below w3.heap.size w3 (w3.alloc (.cells z.cells.toArray 25)) := (Below.refl _ _).alloc (Nat.le_refl _) _
        have hb4 := (H2.out.1.trans (hb3.mono H2.out.1.size)).trans (hba.mono (Nat.le_trans H2.out.1.size hb3.size))
        have het4 := (H2.out.2.2.2.below hb3).below hba
        have H4 := hid (And.intro (H1.out.2.1.trans (hb4.mono H1.out.2.1.size)) het4)
        clear hb3 hba hb4 het4
        go_upto_region 17 with fail
        obtain ⟨W5, hW5⟩ : ∃ W5, W5 = w3.alloc (.cells z.cells.toArray 25) := ⟨_, rfl⟩
        rw [← hW5] at H4
        rw [show w3.alloc (.cells #[.string (mkS z.name), .int .i64 z.kind, .bool z.weak, .int .u64 (z.value : Int), .int .u64 (z.resolver : Int), .int .u64 (z.ordinal : Int), .string (mkS z.other)] 25) = W5 from hW5.symm]
        clear hW5
        go_wp2_with fail
        refine (trie_known W5 H4.out.2).mono ?_
        rintro e w6 ⟨rfl, hb6⟩
        go_wp2_with fail
        go_ret
        exact ⟨rfl, H4.out.1.trans (hb6.mono H4.out.1.size)⟩
  · have hnil : L = [] := by rw [hL]; exact finds_none (by rw [← hE]; exact hz)
    subst hnil
    obtain ⟨a, ac, rfl⟩ := hes.form
    have hE0 : ((E : Int) != 0) = true := by rw [bne_iff_ne]; omega
    have H1 := hid (H.out.2.1.below hb1)
    have H2 := hid hb1
    clear hb1 hes hz hL hE
    go_wp2_with fail
    refine (trie_known _ H1.out).mono ?_
    rintro e w2 ⟨rfl, hb⟩
    go_wp2_with fail
    go_ret
    exact ⟨rfl, H2.out.trans (hb.mono H2.out.size)⟩

set_option maxHeartbeats 1000000 in
theorem tr_finds (w : World) (p : Option Addr) (n cap : Nat) (name : List UInt8) (hb : n ≤ 140737488355328 → ∃ l, BS w (.slice p n cap) l) (het : ET w) :
    Calls Tryd.prog 5 #[.slice p n cap, .string (mkS name)] w fun e w' => e = .returned (.bool true) ∧ Below w.heap.size w w' := by
  by_cases hA : 3000 < n
  · have hd1 : decide ((3000 : Int) < (n : Int)) = true := by simp; omega
    have hd2 : decide (3000 < n) = true := by simp; omega
    have H := hid het
    clear hb het hA
    go_enter Tryd.func5, Tryd.ntmps5
    go_wp2_with fail
    refine (trie_known _ H.out).mono ?_
    rintro e w1 ⟨rfl, hb⟩
    go_wp2_with fail
    go_ret
    exact ⟨rfl, hb⟩
  · obtain ⟨l, h⟩ := hb (by omega)
    exact tr_finds_law w p n cap l name h het
end Go.Proofs.YtipgcdpmkpjokaaDoor
