/- All exports by rising names, and what is said of a name: plain laws. No program in sight. -/
import Derived.Test.YtipgcdpmkpjokaaDoorZLebM
import Derived.Test.YtipgcdpmkpjokaaDoorZAllE
import Derived.Test.YtipgcdpmkpjokaaDoorZFindB
import Derived.Sort.Walk0
import Derived.Test.YtipgcdpmkpjokaaDoorZRfN
import Derived.Test.YtipgcdpmkpjokaaDoorZRfO
namespace Go.Proofs.YtipgcdpmkpjokaaDoor
set_option linter.unusedSimpArgs false
set_option linter.unusedVariables false
open Go.Sort

theorem sayL_of {L : List Exp} (h : NamesApart L) {x : Exp} (hx : x ∈ L) : sayL L x.name = (x, true, 0) := by
  unfold sayL
  cases hf : L.find? (fun y => y.name == x.name) with
  | none =>
    have := List.find?_eq_none.1 hf x hx
    simp at this
  | some y =>
    have h1 := List.mem_of_find?_eq_some hf
    have h2 : y.name = x.name := by simpa using List.find?_some hf
    rw [apart_of_mem h h1 hx h2]

theorem sayL_is (L : List Exp) (name : List UInt8) : (sayL L name).2 = (L.any (fun x => x.name == name), 0) := by
  unfold sayL
  cases hf : L.find? (fun y => y.name == name) with
  | none =>
    have h1 : L.any (fun x => x.name == name) = false := by
      rw [List.any_eq_false]
      exact List.find?_eq_none.1 hf
    rw [h1]
  | some y =>
    have h1 : L.any (fun x => x.name == name) = true := List.any_eq_true.2 ⟨y, List.mem_of_find?_eq_some hf, by have h3 := List.find?_some hf; exact h3⟩
    rw [h1]

theorem any_perm {L M : List Exp} (h : L.Perm M) (p : Exp → Bool) : L.any p = M.any p := by
  rw [Bool.eq_iff_iff, List.any_eq_true, List.any_eq_true]
  exact ⟨fun ⟨x, hx, hp⟩ => ⟨x, h.mem_iff.1 hx, hp⟩, fun ⟨x, hx, hp⟩ => ⟨x, h.mem_iff.2 hx, hp⟩⟩

/-- Wherever all is told, each is found as it is told. -/
theorem finds_at {l : List UInt8} (h : (allS l).1 = 0) {x : Exp} (hx : x ∈ (allS l).2) (hn : x.name.length ≤ 255) : findT l x.name = (x, true, 0) := by
  rw [findT_all h hn]
  exact sayL_of (allT_apart l) ((byNames_perm _).mem_iff.1 hx)

theorem finds_is {l name : List UInt8} (h : (allS l).1 = 0) (hn : name.length ≤ 255) : (findT l name).2 = ((allS l).2.any (fun x => x.name == name), 0) := by
  rw [findT_all h hn, sayL_is]
  show _ = ((byNames (allT l).2).any _, 0)
  rw [any_perm (byNames_perm (allT l).2)]

/-- By rising names. -/
theorem finds_lt {l : List UInt8} {j : Nat} {x y : Exp} (hx : (allS l).2[j]? = some x) (hy : (allS l).2[j + 1]? = some y) : ltStr x.name y.name = true := by
  have hs := byNames_sorted (allT l).2
  have hap : NamesApart (byNames (allT l).2) := (byNames_perm (allT l).2).pairwise_iff (fun {a b} h e => h e.symm) |>.2 (allT_apart l)
  obtain ⟨h1, rfl⟩ := List.getElem?_eq_some_iff.1 hx
  obtain ⟨h2, rfl⟩ := List.getElem?_eq_some_iff.1 hy
  have a1 := List.pairwise_iff_getElem.1 hs j (j + 1) h1 h2 (by omega)
  have a2 := List.pairwise_iff_getElem.1 hap j (j + 1) h1 h2 (by omega)
  unfold nameLe at a1
  cases hlt : ltStr ((allS l).2[j]).name ((allS l).2[j + 1]).name with
  | true => rfl
  | false =>
    have e : ltStr ((byNames (allT l).2)[j]).name ((byNames (allT l).2)[j + 1]).name = false := hlt
    simp only [Bool.not_eq_true'] at a1
    exact absurd (ltStr_anti e a1) a2

/-- A name that is told is short. -/
theorem downF_short (l : List UInt8) : ∀ (f : Nat) (at_ : Int) (name : List UInt8) (walk : List Int) (st : DownSt), (∀ x ∈ st.out, x.name.length ≤ 255) → ∀ x ∈ (downF l f at_ name walk st).2.out, x.name.length ≤ 255
  | 0, _, _, _, _, h => h
  | f + 1, at_, name, walk, st, h => by
    by_cases h1 : 255 < name.length
    · rw [downF_name h1]; exact h
    by_cases h2 : walk.contains at_ = true
    · rw [downF_walk h1 h2]; exact h
    by_cases h3 : 8192 < st.met + 1
    · rw [downF_many h1 h2 h3]; exact h
    by_cases h4 : at_ < 0
    · rw [downF_neg h1 h2 h3 h4]; exact h
    cases h5 : readM l at_.toNat with
    | none => rw [downF_none h1 h2 h3 h4 h5]; exact h
    | some n =>
      have ho : ∀ x ∈ outN n name st.out, x.name.length ≤ 255 := by
        unfold outN
        split
        · intro x hx
          rcases List.mem_append.1 hx with h' | h'
          · exact h x h'
          · simp at h'; rw [h']; show name.length ≤ 255; omega
        · exact h
      by_cases h6 : 4096 < (outN n name st.out).length
      · rw [downF_most h1 h2 h3 h4 h5 h6]; exact ho
      · rw [downF_kids h1 h2 h3 h4 h5 h6]
        have : ∀ (ks : List KidM) (s : DownSt), (∀ x ∈ s.out, x.name.length ≤ 255) → ∀ x ∈ (eachKid (fun k s => downF l f k.to (name ++ k.edge) (walk ++ [at_]) s) ks s).2.out, x.name.length ≤ 255 := by
          intro ks
          induction ks with
          | nil => intro s hs; exact hs
          | cons k ks ih =>
            intro s hs
            rw [eachKid]
            split
            · exact downF_short l f _ _ _ s hs
            · exact ih _ (downF_short l f _ _ _ s hs)
        exact this _ _ ho

theorem finds_short {l : List UInt8} {x : Exp} (hx : x ∈ (allS l).2) : x.name.length ≤ 255 := by
  have h := (byNames_perm (allT l).2).mem_iff.1 hx
  unfold allT at h
  split at h
  · cases h
  · split at h
    · cases h
    · exact downF_short l 257 0 [] [] ⟨0, []⟩ (by simp) x h

theorem finds_none {l : List UInt8} (h : (allS l).1 ≠ 0) : (allS l).2 = [] := by
  have h' : (allT l).1 ≠ 0 := h
  show byNames (allT l).2 = []
  unfold allT at h' ⊢
  split at h'
  · exact absurd rfl h'
  · rename_i hl
    rw [if_neg hl]
    split at h'
    · rename_i hz
      rw [if_pos hz]
      exact byNames_nil
    · exact absurd rfl h'

theorem finds_few (l : List UInt8) : (allS l).2.length ≤ 4096 := by
  show (byNames (allT l).2).length ≤ 4096
  rw [(byNames_perm (allT l).2).length_eq]
  exact allT_few l
end Go.Proofs.YtipgcdpmkpjokaaDoor

namespace Go.Proofs.YtipgcdpmkpjokaaDoor
set_option linter.unusedSimpArgs false
set_option linter.unusedVariables false
open Go.RowKit Go.Sort

/-- So far each is found. -/
def FWRel (w1 wr : World) (L : List Exp) (name : List UInt8) (t i : Value) : Prop :=
  ∃ j, j ≤ L.length ∧ i = .int .i64 (j : Int) ∧ t = .bool ((L.take j).any (fun x => x.name == name)) ∧ Below w1.heap.size w1 wr

theorem any_take {L : List Exp} {j : Nat} {x : Exp} (hx : L[j]? = some x) (p : Exp → Bool) : (L.take (j + 1)).any p = ((L.take j).any p || p x) := by
  rw [List.take_add_one, hx]; simp

set_option maxHeartbeats 2000000 in
set_option maxRecDepth 4000 in
theorem tr_finds_law (w : World) (p : Option Addr) (n cap : Nat) (l name : List UInt8) (h : BS w (.slice p n cap) l) (het : ET w) :
    Calls Tryd.prog 5 #[.slice p n cap, .string (mkS name)] w fun e w' => e = .returned (.bool true) ∧ Below w.heap.size w w' := by
  obtain rfl := h.len
  have hcp := h.cap
  by_cases hA : 3000 < l.length
  · have hd1 : decide ((3000 : Int) < (l.length : Int)) = true := by simp; omega
    have hd2 : decide (3000 < l.length) = true := by simp; omega
    have H := hid het
    clear h het hA
    go_enter Tryd.func5, Tryd.ntmps5
    go_wp2_with fail
    refine (trie_known _ H.out).mono ?_
    rintro e w1 ⟨rfl, hb⟩
    go_wp2_with fail
    go_ret
    exact ⟨rfl, hb⟩
  have hd1 : decide ((3000 : Int) < (l.length : Int)) = false := by simp; omega
  have hd2 : decide (3000 < l.length) = false := by simp; omega
  by_cases hB : 255 < name.length
  · have hd3 : decide ((255 : Int) < (name.length : Int)) = true := by simp; omega
    have hd4 : decide (255 < name.length) = true := by simp; omega
    have H := hid het
    clear h het hA hB
    go_enter Tryd.func5, Tryd.ntmps5
    go_wp2_with fail
    refine (trie_known _ H.out).mono ?_
    rintro e w1 ⟨rfl, hb⟩
    go_wp2_with fail
    go_ret
    exact ⟨rfl, hb⟩
  have hd3 : decide ((255 : Int) < (name.length : Int)) = false := by simp; omega
  have hd4 : decide (255 < name.length) = false := by simp; omega
  have H := hid (And.intro h (And.intro het hB))
  clear h het hA hB
  go_enter Tryd.func5, Tryd.ntmps5
  go_wp2_with fail
  refine (trie_all w p l.length cap l H.out.1 H.out.2.1).mono ?_
  rintro e w1 ⟨v, rfl, hes, hb1⟩
  obtain ⟨L, hL⟩ : ∃ L, L = (allS l).2 := ⟨_, rfl⟩
  obtain ⟨E, hE⟩ : ∃ E, E = (allS l).1 := ⟨_, rfl⟩
  rw [← hL] at hes
  rw [← hE]
  by_cases hz : E = 0
  · subst hz
    have hfew : L.length ≤ 4096 := by rw [hL]; exact finds_few l
    obtain ⟨a, ac, rfl⟩ := hes.form
    have hat : ∀ x, x ∈ L → findT l x.name = (x, true, 0) := fun x hx => by
      rw [hL] at hx
      exact finds_at hE.symm hx (finds_short hx)
    have his : (findT l name).2 = (L.any (fun x => x.name == name), 0) := by
      rw [hL]
      have := H.out.2.2
      exact finds_is hE.symm (by omega)
    have hlt : ∀ j x y, L[j]? = some x → L[j + 1]? = some y → ltStr x.name y.name = true := fun j x y hx hy => by
      rw [hL] at hx hy
      exact finds_lt hx hy
    have H1 := hid (And.intro hes (And.intro hb1 (And.intro hat (And.intro his hlt))))
    clear hes hb1 hat his hlt hL hE
    go_wp2_with fail
    go_loopw [7, 8] (fun t i wr => FWRel w1 wr L name t i) (fun _ i _ => L.length - (intOf i).toNat)
    case atStart => exact ⟨0, Nat.zero_le _, rfl, rfl, Below.refl _ _⟩
    case round =>
      obtain ⟨j, hj, rfl, rfl, hb⟩ := hrel
      have hes := H1.out.1.below hb
      have hbs := (H.out.1.below H1.out.2.1).below hb
      have het2 := (H.out.2.1.below H1.out.2.1).below hb
      have H2 := hid (And.intro hb (And.intro hes (And.intro hbs het2)))
      clear hb hes hbs het2
      obtain ⟨T, hT⟩ : ∃ T, T = (L.take j).any (fun x => x.name == name) := ⟨_, rfl⟩
      rw [← hT]
      have HT := hid hT
      clear hT
      by_cases hjl : j < L.length
      · obtain ⟨x, hx⟩ : ∃ x, L[j]? = some x := ⟨_, List.getElem?_eq_getElem hjl⟩
        obtain ⟨g, off, rfl, x0, x1, x2, x3, x4, x5, x6⟩ := H2.out.2.1.at hx
        have hfd := fun q => trie_find (wr.drewN q) p l.length cap l x.name (H2.out.2.2.1.heap rfl) (H2.out.2.2.2.heap rfl)
        simp only [H1.out.2.2.1 x (List.mem_of_getElem? hx)] at hfd
        have H3 := hid (And.intro hx hfd)
        rcases Nat.eq_zero_or_pos j with hj0 | hj0
        · have hd5 : decide ((0 : Int) < (j : Int)) = false := by simp; omega
          have hd6 : decide (0 < j) = false := by simp; omega
          clear hx hfd hj0
          go_wp2_with fail
          go_quiet (fail)
          go_wp2_with fail
          refine (H3.out.2 _).mono ?_
          rintro e w3 ⟨rfl, hb3⟩
          have hb3' : Below wr.heap.size wr w3 := ⟨hb3.os, hb3.tape, hb3.output, hb3.size, hb3.block⟩
          have hba : Below w3.heap.size w3 (w3.alloc (.cells x.cells.toArray 25)) := (Below.refl _ _).alloc (Nat.le_refl _) _
          have hes4 := (H2.out.2.1.below hb3').below hba
          have hrow : RowAt (w3.alloc (.cells x.cells.toArray 25)) w3.heap.size 25 x.cells.toArray := heap_alloc_new w3 _
          have hb4 := hb3'.trans (hba.mono hb3'.size)
          clear x0 x1 x2 x3 x4 x5 x6 hb3 hb3' hba
          have hzc : x.cells.toArray = #[.string (mkS x.name), .int .i64 x.kind, .bool x.weak, .int .u64 x.value, .int .u64 x.resolver, .int .u64 x.ordinal, .string (mkS x.other)] := rfl
          rw [hzc]
          clear hzc
          go_upto_region 13 with fail
          obtain ⟨N, hN⟩ : ∃ N, N = w3.heap.size := ⟨_, rfl⟩
          obtain ⟨W5, hW5⟩ : ∃ W5, W5 = w3.alloc (.cells x.cells.toArray 25) := ⟨_, rfl⟩
          rw [← hN, ← hW5] at hrow
          rw [← hW5] at hes4 hb4
          rw [← hN]
          rw [show w3.alloc (.cells #[.string (mkS x.name), .int .i64 x.kind, .bool x.weak, .int .u64 (x.value : Int), .int .u64 (x.resolver : Int), .int .u64 (x.ordinal : Int), .string (mkS x.other)] 25) = W5 from hW5.symm]
          obtain ⟨g3, off3, hg3, z0, z1, z2, z3, z4, z5, z6⟩ := hes4.at H3.out.1
          cases hg3
          have n0 : W5.cell? ⟨N, 0, none⟩ = some (.string (mkS x.name)) := cell_of_row W5 N 0 _ _ _ hrow
          have n1 : W5.cell? ⟨N, 1, none⟩ = some (.int .i64 x.kind) := cell_of_row W5 N 1 _ _ _ hrow
          have n2 : W5.cell? ⟨N, 2, none⟩ = some (.bool x.weak) := cell_of_row W5 N 2 _ _ _ hrow
          have n3 : W5.cell? ⟨N, 3, none⟩ = some (.int .u64 (x.value : Int)) := cell_of_row W5 N 3 _ _ _ hrow
          have n4 : W5.cell? ⟨N, 4, none⟩ = some (.int .u64 (x.resolver : Int)) := cell_of_row W5 N 4 _ _ _ hrow
          have n5 : W5.cell? ⟨N, 5, none⟩ = some (.int .u64 (x.ordinal : Int)) := cell_of_row W5 N 5 _ _ _ hrow
          have n6 : W5.cell? ⟨N, 6, none⟩ = some (.string (mkS x.other)) := cell_of_row W5 N 6 _ _ _ hrow
          have H5 := hid (H2.out.1.trans (hb4.mono H2.out.1.size))
          clear hN hW5 hrow hes4 hb4
          go_quiet (fail)
          go_wp2_with fail
          all_goals
            refine ⟨⟨_, hjl, by go_num, ?_, ⟨H5.out.os, H5.out.tape, H5.out.output, H5.out.size, H5.out.block⟩⟩, by simp [intOf]; omega⟩
            first
            | (rw [any_take H3.out.1, ← HT.out]; simp; done)
            | (rw [any_take H3.out.1, ← HT.out]; simp [*]; done)
        · obtain ⟨m, rfl⟩ : ∃ m, j = m + 1 := ⟨j - 1, by omega⟩
          obtain ⟨y, hy⟩ : ∃ y, L[m]? = some y := ⟨_, List.getElem?_eq_getElem (by omega)⟩
          obtain ⟨g2, off2, hg2, y0, y1, y2, y3, y4, y5, y6⟩ := H2.out.2.1.at hy
          cases hg2
          have e1 : Op.bytesLess y.name x.name = true := (show Op.bytesLess y.name x.name = ltStr y.name x.name from bytesLess_eq _ _).trans (H1.out.2.2.2.2 m y x hy hx)
          clear hx hy hfd
          go_wp2_with fail
          go_quiet (fail)
          go_wp2_with fail
          refine (H3.out.2 _).mono ?_
          rintro e w3 ⟨rfl, hb3⟩
          have hb3' : Below wr.heap.size wr w3 := ⟨hb3.os, hb3.tape, hb3.output, hb3.size, hb3.block⟩
          have hba : Below w3.heap.size w3 (w3.alloc (.cells x.cells.toArray 25)) := (Below.refl _ _).alloc (Nat.le_refl _) _
          have hes4 := (H2.out.2.1.below hb3').below hba
          have hrow : RowAt (w3.alloc (.cells x.cells.toArray 25)) w3.heap.size 25 x.cells.toArray := heap_alloc_new w3 _
          have hb4 := hb3'.trans (hba.mono hb3'.size)
          clear y0 y1 y2 y3 y4 y5 y6 e1 x0 x1 x2 x3 x4 x5 x6 hb3 hb3' hba
          have hzc : x.cells.toArray = #[.string (mkS x.name), .int .i64 x.kind, .bool x.weak, .int .u64 x.value, .int .u64 x.resolver, .int .u64 x.ordinal, .string (mkS x.other)] := rfl
          rw [hzc]
          clear hzc
          go_upto_region 13 with fail
          obtain ⟨N, hN⟩ : ∃ N, N = w3.heap.size := ⟨_, rfl⟩
          obtain ⟨W5, hW5⟩ : ∃ W5, W5 = w3.alloc (.cells x.cells.toArray 25) := ⟨_, rfl⟩
          rw [← hN, ← hW5] at hrow
          rw [← hW5] at hes4 hb4
          rw [← hN]
          rw [show w3.alloc (.cells #[.string (mkS x.name), .int .i64 x.kind, .bool x.weak, .int .u64 (x.value : Int), .int .u64 (x.resolver : Int), .int .u64 (x.ordinal : Int), .string (mkS x.other)] 25) = W5 from hW5.symm]
          obtain ⟨g3, off3, hg3, z0, z1, z2, z3, z4, z5, z6⟩ := hes4.at H3.out.1
          cases hg3
          have n0 : W5.cell? ⟨N, 0, none⟩ = some (.string (mkS x.name)) := cell_of_row W5 N 0 _ _ _ hrow
          have n1 : W5.cell? ⟨N, 1, none⟩ = some (.int .i64 x.kind) := cell_of_row W5 N 1 _ _ _ hrow
          have n2 : W5.cell? ⟨N, 2, none⟩ = some (.bool x.weak) := cell_of_row W5 N 2 _ _ _ hrow
          have n3 : W5.cell? ⟨N, 3, none⟩ = some (.int .u64 (x.value : Int)) := cell_of_row W5 N 3 _ _ _ hrow
          have n4 : W5.cell? ⟨N, 4, none⟩ = some (.int .u64 (x.resolver : Int)) := cell_of_row W5 N 4 _ _ _ hrow
          have n5 : W5.cell? ⟨N, 5, none⟩ = some (.int .u64 (x.ordinal : Int)) := cell_of_row W5 N 5 _ _ _ hrow
          have n6 : W5.cell? ⟨N, 6, none⟩ = some (.string (mkS x.other)) := cell_of_row W5 N 6 _ _ _ hrow
          have H5 := hid (H2.out.1.trans (hb4.mono H2.out.1.size))
          clear hN hW5 hrow hes4 hb4
          go_quiet (fail)
          go_wp2_with fail
          all_goals
            refine ⟨⟨_, hjl, by go_num, ?_, ⟨H5.out.os, H5.out.tape, H5.out.output, H5.out.size, H5.out.block⟩⟩, by simp [intOf]; omega⟩
            first
            | (rw [any_take H3.out.1, ← HT.out]; simp; done)
            | (rw [any_take H3.out.1, ← HT.out]; simp [*]; done)
      · obtain rfl : j = L.length := by omega
        have hd5 : decide ((L.length : Int) < (L.length : Int)) = false := by simp
        obtain ⟨z, hz⟩ : ∃ z, findT l name = (z, T, 0) := by
          refine ⟨(findT l name).1, Prod.ext rfl ?_⟩
          rw [H1.out.2.2.2.1, HT.out, List.take_length]
        have hfd := trie_find wr p l.length cap l name H2.out.2.2.1 H2.out.2.2.2
        rw [hz] at hfd
        have hzc : z.cells.toArray = #[.string (mkS z.name), .int .i64 z.kind, .bool z.weak, .int .u64 z.value, .int .u64 z.resolver, .int .u64 z.ordinal, .string (mkS z.other)] := rfl
        rw [hzc] at hfd
        clear hzc hz
        have H3 := hid hfd
        clear hfd
        go_wp2_with fail
        refine H3.out.mono ?_
        rintro e w3 ⟨rfl, hb3⟩
        have hba : Below w3.heap.size w3 (w3.alloc (.cells z.cells.toArray 25)) := (Below.refl _ _).alloc (Nat.le_refl _) _
        have hb4 := (H2.out.1.trans (hb3.mono H2.out.1.size)).trans (hba.mono (Nat.le_trans H2.out.1.size hb3.size))
        have het4 := (H2.out.2.2.2.below hb3).below hba
        have H4 := hid (And.intro (H1.out.2.1.trans (hb4.mono H1.out.2.1.size)) het4)
        clear hb3 hba hb4 het4
        go_upto_region 17 with fail
        obtain ⟨W5, hW5⟩ : ∃ W5, W5 = w3.alloc (.cells z.cells.toArray 25) := ⟨_, rfl⟩
        rw [← hW5] at H4
        rw [show w3.alloc (.cells #[.string (mkS z.name), .int .i64 z.kind, .bool z.weak, .int .u64 (z.value : Int), .int .u64 (z.resolver : Int), .int .u64 (z.ordinal : Int), .string (mkS z.other)] 25) = W5 from hW5.symm]
        clear hW5
        go_wp2_with fail
        refine (trie_known W5 H4.out.2).mono ?_
        rintro e w6 ⟨rfl, hb6⟩
        go_wp2_with fail
        go_ret
        exact ⟨rfl, H4.out.1.trans (hb6.mono H4.out.1.size)⟩
  · have hnil : L = [] := by rw [hL]; exact finds_none (by rw [← hE]; exact hz)
    subst hnil
    obtain ⟨a, ac, rfl⟩ := hes.form
    have hE0 : ((E : Int) != 0) = true := by rw [bne_iff_ne]; omega
    have H1 := hid (H.out.2.1.below hb1)
    have H2 := hid hb1
    clear hb1 hes hz hL hE
    go_wp2_with fail
    refine (trie_known _ H1.out).mono ?_
    rintro e w2 ⟨rfl, hb⟩
    go_wp2_with fail
    go_ret
    exact ⟨rfl, H2.out.trans (hb.mono H2.out.size)⟩

set_option maxHeartbeats 1000000 in
theorem tr_finds (w : World) (p : Option Addr) (n cap : Nat) (name : List UInt8) (hb : n ≤ 140737488355328 → ∃ l, BS w (.slice p n cap) l) (het : ET w) :
    Calls Tryd.prog 5 #[.slice p n cap, .string (mkS name)] w fun e w' => e = .returned (.bool true) ∧ Below w.heap.size w w' := by
  by_cases hA : 3000 < n
  · have hd1 : decide ((3000 : Int) < (n : Int)) = true := by simp; omega
    have hd2 : decide (3000 < n) = true := by simp; omega
    have H := hid het
    clear hb het hA
    go_enter Tryd.func5, Tryd.ntmps5
    go_wp2_with fail
    refine (trie_known _ H.out).mono ?_
    rintro e w1 ⟨rfl, hb⟩
    go_wp2_with fail
    go_ret
    exact ⟨rfl, hb⟩
  · obtain ⟨l, h⟩ := hb (by omega)
    exact tr_finds_law w p n cap l name h het
end Go.Proofs.YtipgcdpmkpjokaaDoor

namespace Go.Proofs.YtipgcdpmkpjokaaDoor
set_option linter.unusedSimpArgs false
set_option linter.unusedVariables false
open Go.RowKit Go.Sort

theorem Tryd.infoU8 : (Tryd.prog.info? 5).map (fun i => (i.zero, i.size, i.bytes)) = some (some (.int .u8 0), 1, 1) := by kernel_rfl
theorem u8row : ∃ i, U8Row Tryd.prog 30 5 i := by
  obtain ⟨i, h1, h2, h3, h4⟩ := info_parts Tryd.infoU8
  exact ⟨i, ⟨Tryd.underlying30, h1, h2, h3, h4⟩⟩

/-- What a law's call brings about. -/
def LawEnd (w : World) (e : Ending) (w' : World) : Prop := e = .returned (.bool true) ∧ Below w.heap.size w w'

theorem row_cells {W : World} {N : Nat} {t : TypeId} {x : Exp} (h : RowAt W N t x.cells.toArray) : W.cell? ⟨N, 0, none⟩ = some (.string (mkS x.name)) ∧ W.cell? ⟨N, 1, none⟩ = some (.int .i64 x.kind) ∧ W.cell? ⟨N, 2, none⟩ = some (.bool x.weak) ∧ W.cell? ⟨N, 3, none⟩ = some (.int .u64 (x.value : Int)) ∧ W.cell? ⟨N, 4, none⟩ = some (.int .u64 (x.resolver : Int)) ∧ W.cell? ⟨N, 5, none⟩ = some (.int .u64 (x.ordinal : Int)) ∧ W.cell? ⟨N, 6, none⟩ = some (.string (mkS x.other)) :=
  ⟨cell_of_row W N 0 _ _ _ h, cell_of_row W N 1 _ _ _ h, cell_of_row W N 2 _ _ _ h, cell_of_row W N 3 _ _ _ h, cell_of_row W N 4 _ _ _ h, cell_of_row W N 5 _ _ _ h, cell_of_row W N 6 _ _ _ h⟩

set_option maxHeartbeats 2000000 in
set_option maxRecDepth 100000 in
theorem tr_reads_law (w : World) (p : Option Addr) (n cap : Nat) (l name : List UInt8) (h : BS w (.slice p n cap) l) (het : ET w) :
    Calls Tryd.prog 4 #[.slice p n cap, .string (mkS name)] w (LawEnd w) := by
  obtain rfl := h.len
  have hcp := h.cap
  by_cases hA : 5000 < l.length
  · have hd1 : decide ((5000 : Int) < (l.length : Int)) = true := by simp; omega
    have hd2 : decide (5000 < l.length) = true := by simp; omega
    have H := hid het
    clear h het hA
    go_enter Tryd.func4, Tryd.ntmps4
    go_wp2_with fail
    refine (trie_known _ H.out).mono ?_
    rintro e w1 ⟨rfl, hb⟩
    go_wp2_with fail
    go_ret
    exact ⟨rfl, hb⟩
  have hd1 : decide ((5000 : Int) < (l.length : Int)) = false := by simp; omega
  have hd2 : decide (5000 < l.length) = false := by simp; omega
  by_cases hB : 400 < name.length
  · have hd3 : decide ((400 : Int) < (name.length : Int)) = true := by simp; omega
    have hd4 : decide (400 < name.length) = true := by simp; omega
    have H := hid het
    clear h het hA hB
    go_enter Tryd.func4, Tryd.ntmps4
    go_wp2_with fail
    refine (trie_known _ H.out).mono ?_
    rintro e w1 ⟨rfl, hb⟩
    go_wp2_with fail
    go_ret
    exact ⟨rfl, hb⟩
  have hd3 : decide ((400 : Int) < (name.length : Int)) = false := by simp; omega
  have hd4 : decide (400 < name.length) = false := by simp; omega
  obtain ⟨u8i, hu8⟩ := u8row
  have H := hid (And.intro h (And.intro het hu8))
  have hl5 : l.length ≤ 5000 := by omega
  clear h het hA hB hu8
  go_enter Tryd.func4, Tryd.ntmps4
  go_wp2_with (at_builtin; refine wpList_bytes H.out.2.2 _ rfl _ _ _ rfl w.heap.size _ [] rfl (OB.nil _ _ _) _ l rfl (Src.ofBS Tryd.underlying30 H.out.1) ?c3 ?c4 ?_)
  case c3 => simp; omega
  case c4 => exact Nat.le_refl _
  intro v1 W1 ho1 hg1
  obtain ⟨op, oc, hv1⟩ := ho1.form
  subst hv1
  have hb1 : Below w.heap.size w W1 := hg1.below (Nat.le_refl _) (fun k e => by cases e)
  have H1 := hid (And.intro (ho1.bs (by omega)) (And.intro (H.out.1.below hb1) (And.intro (H.out.2.1.below hb1) hb1)))
  clear ho1 hg1 hb1
  obtain ⟨L, hL⟩ : ∃ L, L = allS l := ⟨_, rfl⟩
  obtain ⟨E, L⟩ := L
  obtain ⟨r, hr⟩ : ∃ r, r = findT l name := ⟨_, rfl⟩
  obtain ⟨x, is, g⟩ := r
  go_wp2_with fail
  refine (trie_all W1 op l.length oc l H1.out.1 H1.out.2.2.1).mono ?_
  rintro e W2 ⟨va, rfl, hes, hb2⟩
  rw [← hL] at hes ⊢
  obtain ⟨ap, ac, hva⟩ := hes.form
  subst hva
  have H2 := hid (And.intro hes (And.intro (H1.out.1.below hb2) (And.intro (H1.out.2.1.below hb2) (And.intro (H1.out.2.2.1.below hb2) (H1.out.2.2.2.trans (hb2.mono H1.out.2.2.2.size))))))
  clear hes hb2
  have hall := ref_all W2 p l.length cap l H2.out.2.2.1
  rw [← hL] at hall
  have HL := hid (And.intro hL hall)
  clear hL hall
  go_wp2_with fail
  refine HL.out.2.mono ?_
  rintro e W3 ⟨vb, rfl, hes3, hb3⟩
  obtain ⟨bp, bc, hvb⟩ := hes3.form
  subst hvb
  have H3 := hid (And.intro hes3 (And.intro (H2.out.1.below hb3) (And.intro (H2.out.2.1.below hb3) (And.intro (H2.out.2.2.1.below hb3) (And.intro (H2.out.2.2.2.1.below hb3) (H2.out.2.2.2.2.trans (hb3.mono H2.out.2.2.2.2.size)))))))
  clear hes3 hb3
  have hfd := trie_find W3 op l.length oc l name H3.out.2.2.1 H3.out.2.2.2.2.1
  rw [← hr] at hfd
  have HF := hid (And.intro hr hfd)
  clear hr hfd
  go_wp2_with fail
  refine HF.out.2.mono ?_
  rintro e W4 ⟨rfl, hb4⟩
  have hba4 : Below W4.heap.size W4 (W4.alloc (.cells x.cells.toArray 25)) := (Below.refl _ _).alloc (Nat.le_refl _) _
  have hb4' := hb4.trans (hba4.mono hb4.size)
  have hN4 : RowAt (W4.alloc (.cells x.cells.toArray 25)) W4.heap.size 25 x.cells.toArray := heap_alloc_new W4 _
  obtain ⟨N, hN⟩ : ∃ N, N = W4.heap.size := ⟨_, rfl⟩
  obtain ⟨W5, hW5⟩ : ∃ W5, W5 = W4.alloc (.cells x.cells.toArray 25) := ⟨_, rfl⟩
  rw [← hN, ← hW5] at hN4
  rw [← hW5] at hb4'
  have H4 := hid (And.intro hN4 (And.intro (H3.out.1.below hb4') (And.intro (H3.out.2.1.below hb4') (And.intro (H3.out.2.2.1.below hb4') (And.intro (H3.out.2.2.2.1.below hb4') (And.intro (H3.out.2.2.2.2.1.below hb4') (H3.out.2.2.2.2.2.trans (hb4'.mono H3.out.2.2.2.2.2.size))))))))
  have hW5' : W4.alloc (.cells #[.string (mkS x.name), .int .i64 x.kind, .bool x.weak, .int .u64 (x.value : Int), .int .u64 (x.resolver : Int), .int .u64 (x.ordinal : Int), .string (mkS x.other)] 25) = W5 := hW5.symm
  have HW5 := hid (And.intro hN hW5')
  clear hb4 hba4 hb4' hN4 hN hW5 hW5'
  rw [show x.cells.toArray = #[.string (mkS x.name), .int .i64 x.kind, .bool x.weak, .int .u64 (x.value : Int), .int .u64 (x.resolver : Int), .int .u64 (x.ordinal : Int), .string (mkS x.other)] from rfl]
  go_upto_region 7 with fail
  rw [HW5.out.2, ← HW5.out.1]
  have hrf := ref_find W5 p l.length cap l name H4.out.2.2.2.2.1
  rw [← HF.out.1] at hrf
  have HG := hid hrf
  clear hrf
  go_wp2_with fail
  refine HG.out.mono ?_
  rintro e W6 ⟨rfl, hb6⟩
  have hba6 : Below W6.heap.size W6 (W6.alloc (.cells x.cells.toArray 25)) := (Below.refl _ _).alloc (Nat.le_refl _) _
  have hb6' := hb6.trans (hba6.mono hb6.size)
  have hM6 : RowAt (W6.alloc (.cells x.cells.toArray 25)) W6.heap.size 25 x.cells.toArray := heap_alloc_new W6 _
  obtain ⟨M, hM⟩ : ∃ M, M = W6.heap.size := ⟨_, rfl⟩
  obtain ⟨W7, hW7⟩ : ∃ W7, W7 = W6.alloc (.cells x.cells.toArray 25) := ⟨_, rfl⟩
  rw [← hM, ← hW7] at hM6
  rw [← hW7] at hb6'
  have H6 := hid (And.intro hM6 (And.intro ((hb6'.block N H4.out.1.lt).trans H4.out.1) (And.intro (H4.out.2.1.below hb6') (And.intro (H4.out.2.2.1.below hb6') (And.intro (H4.out.2.2.2.1.below hb6') (And.intro (H4.out.2.2.2.2.1.below hb6') (And.intro (H4.out.2.2.2.2.2.1.below hb6') (H4.out.2.2.2.2.2.2.trans (hb6'.mono H4.out.2.2.2.2.2.2.size)))))))))
  have hW7' : W6.alloc (.cells #[.string (mkS x.name), .int .i64 x.kind, .bool x.weak, .int .u64 (x.value : Int), .int .u64 (x.resolver : Int), .int .u64 (x.ordinal : Int), .string (mkS x.other)] 25) = W7 := hW7.symm
  have HW7 := hid (And.intro hM hW7')
  clear hb6 hba6 hb6' hM6 hM hW7 hW7'
  rw [show x.cells.toArray = #[.string (mkS x.name), .int .i64 x.kind, .bool x.weak, .int .u64 (x.value : Int), .int .u64 (x.resolver : Int), .int .u64 (x.ordinal : Int), .string (mkS x.other)] from rfl]
  go_upto_region 8 with fail
  rw [HW7.out.2, ← HW7.out.1]
  go_wp2_with fail
  refine (ref_same W7 _ _ L H6.out.2.2.2.1 H6.out.2.2.1).mono ?_
  rintro e w8 ⟨rfl, q, rfl⟩
  obtain ⟨V, hV⟩ : ∃ V, V = W7.drewN q := ⟨_, rfl⟩
  have hNr : RowAt V N 25 x.cells.toArray := by rw [hV]; exact H6.out.2.1
  have hMr : RowAt V M 25 x.cells.toArray := by rw [hV]; exact H6.out.1
  have hbo : BS V (.slice op l.length oc) l := H6.out.2.2.2.2.1.heap (by rw [hV]; rfl)
  have hbb : BS V (.slice p l.length cap) l := H6.out.2.2.2.2.2.1.heap (by rw [hV]; rfl)
  have hev : ET V := by rw [hV]; exact H6.out.2.2.2.2.2.2.1
  have hlow : Below w.heap.size w V := by have h := H6.out.2.2.2.2.2.2.2; rw [hV]; exact ⟨h.os, h.tape, h.output, h.size, h.block⟩
  rw [← hV]
  obtain ⟨n0, n1, n2, n3, n4, n5, n6⟩ := row_cells hNr
  obtain ⟨m0, m1, m2, m3, m4, m5, m6⟩ := row_cells hMr
  have t1 := run_toString (P := Tryd.prog) (w := V) op l.length oc Tryd.underlying30 Tryd.underlying5 Tryd.underlying9 hbo
  have t2 := run_toString (P := Tryd.prog) (w := V) p l.length cap Tryd.underlying30 Tryd.underlying5 Tryd.underlying9 hbb
  have H8 := hid (And.intro hev hlow)
  clear hV hNr hMr hbo hbb hev hlow
  go_wp2_with fail
  refine (trie_known V H8.out.1).mono ?_
  rintro e w9 ⟨rfl, hb9⟩
  go_wp2_with fail
  go_ret
  exact ⟨rfl, H8.out.2.trans (hb9.mono H8.out.2.size)⟩

set_option maxHeartbeats 1000000 in
theorem tr_reads (w : World) (p : Option Addr) (n cap : Nat) (name : List UInt8) (hb : n ≤ 140737488355328 → ∃ l, BS w (.slice p n cap) l) (het : ET w) :
    Calls Tryd.prog 4 #[.slice p n cap, .string (mkS name)] w fun e w' => e = .returned (.bool true) ∧ Below w.heap.size w w' := by
  by_cases hA : 5000 < n
  · have hd1 : decide ((5000 : Int) < (n : Int)) = true := by simp; omega
    have hd2 : decide (5000 < n) = true := by simp; omega
    have H := hid het
    clear hb het hA
    go_enter Tryd.func4, Tryd.ntmps4
    go_wp2_with fail
    refine (trie_known _ H.out).mono ?_
    rintro e w1 ⟨rfl, hb⟩
    go_wp2_with fail
    go_ret
    exact ⟨rfl, hb⟩
  · obtain ⟨l, h⟩ := hb (by omega)
    exact (tr_reads_law w p n cap l name h het).mono fun _ _ h => h
end Go.Proofs.YtipgcdpmkpjokaaDoor
