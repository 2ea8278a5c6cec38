/- The walk of layer 10's reference: one. -/
import Derived.Test.YthhjdkcnkdffcaaGreatZQRefA
import Derived.OneCell
namespace Go.Proofs.YthhjdkcnkdffcaaGreat.Nl
set_option linter.unusedSimpArgs false
set_option linter.unusedVariables false
open Go.RowKit Go.Maps

theorem weak_int (d : Nat) : ((d : Int) / 128 % 2 == 1) = (d / 128 % 2 == 1) := by
  rw [Bool.eq_iff_iff]; simp; omega

/-- What the reference's one answers of an entry that is told. -/
def oneM (E names : List UInt8) (sections : Int) : Nat × Sym := (entryM E names sections).getD (0, Sym.zero)

def OnePost (w : World) (r : Nat × Sym) (e : Ending) (w' : World) : Prop :=
  e = .returned (.tuple #[.agg r.2.cells.toArray, .int .i64 r.1]) ∧ Below w.heap.size w w'

set_option maxHeartbeats 2000000 in
set_option maxRecDepth 8000 in
/-- From where the symbol stands without its name. -/
theorem ref_one (w : World) (p q : Option Addr) (cap k capk : Nat) (E names : List UInt8) (sections : Int) (hE : BS w (.slice p 16 cap) E) (hn : BS w (.slice q k capk) names)
    (kd : Nat) (hkd : (E[4]?.getD 0).toNat = kd) (hk : kd = 15 ∨ kd = 3) :
    Calls Tryz.prog 69 #[.slice p 16 cap, .slice q k capk, .int .i64 sections] w (OnePost w (oneM E names sections)) := by
  have hl := hE.len
  have hcp := hn.cap
  obtain ⟨b, off, rfl, hcell⟩ := hE.at (by omega)
  have hlt : b < w.heap.size := by
    have := hcell 0 _ (List.getElem?_eq_getElem (by omega))
    exact World.block_lt_of_cell? w _ this
  obtain ⟨x4, hx4⟩ : ∃ x, E[4]? = some x := ⟨_, List.getElem?_eq_getElem (by omega)⟩
  obtain ⟨x5, hx5⟩ : ∃ x, E[5]? = some x := ⟨_, List.getElem?_eq_getElem (by omega)⟩
  obtain ⟨sc, hsc⟩ : ∃ sc, sc = (E[5]?.getD 0).toNat := ⟨_, rfl⟩
  obtain ⟨de, hde⟩ : ∃ de, de = leNat ((E.drop 6).take 2) := ⟨_, rfl⟩
  obtain ⟨ad, had⟩ : ∃ ad, ad = leNat ((E.drop 8).take 8) := ⟨_, rfl⟩
  obtain ⟨nm, hnm⟩ : ∃ nm, nm = leNat (E.take 4) := ⟨_, rfl⟩
  have bsc : sc < 256 := by rw [hsc]; exact (E[5]?.getD 0).toNat_lt
  have bnm : nm < 2 ^ 32 := by
    rw [hnm]; refine Nat.lt_of_lt_of_le (leNat_lt _) ?_
    have : (E.take 4).length ≤ 4 := List.length_take_le _ _
    exact Nat.le_trans (Nat.pow_le_pow_right (by omega) this) (by decide)
  have bde : de < 65536 := by
    rw [hde]; refine Nat.lt_of_lt_of_le (leNat_lt _) ?_
    have : ((E.drop 6).take 2).length ≤ 2 := List.length_take_le _ _
    exact Nat.le_trans (Nat.pow_le_pow_right (by omega) this) (by decide)
  have hc4 : w.cell? ⟨b, off + 4, none⟩ = some (.int .u8 kd) := by rw [hcell 4 x4 hx4, ← hkd, hx4]; rfl
  have hc5 : w.cell? ⟨b, off + 5, none⟩ = some (.int .u8 sc) := by rw [hcell 5 x5 hx5, hsc, hx5]; rfl
  have hone : oneM E names sections = (if (toldM kd sc de ad sections).2.2 ≠ 0 then ((toldM kd sc de ad sections).2.2, Sym.zero) else if (textM names nm).2 ≠ 0 then ((textM names nm).2, Sym.zero) else (0, { (toldM kd sc de ad sections).1 with name := (textM names nm).1 })) := by
    unfold oneM entryM
    dsimp only
    rw [hkd, ← hsc, ← hde, ← had, ← hnm]
    have ht : (toldM kd sc de ad sections).2.1 = true := by
      unfold toldM
      rcases hk with rfl | rfl
      · rw [if_pos rfl]; split <;> rfl
      · rfl
    rw [ht]
    simp only [Bool.true_eq_false, if_false]
    split
    · rfl
    · split <;> rfl
  have H := hid (And.intro hE (And.intro hn (And.intro hone (And.intro hde (And.intro had (And.intro hnm bnm))))))
  clear hE hn hone hde had hnm bnm hcell hl hx4 hx5 hkd hsc
  go_enter Tryz.func69, Tryz.ntmps69
  go_wp2_with fail
  refine (ref_get _ (some ⟨b, off, none⟩) 16 cap E 8 8 _ _ (by rfl) (by rfl) (by omega) (by exact H.out.1.below ((Below.refl _ _).alloc (Nat.le_refl _) _)) (by omega)).mono ?_
  rintro e w1 ⟨rfl, hb1⟩
  have hbw1 : Below w.heap.size w w1 := ((Below.refl _ _).alloc (Nat.le_refl _) _).trans (hb1.mono (by simp))
  have hr1 : w1.heap[w.heap.size]? = some (.cells #[.string (mkS []), .int .i64 0, .int .u64 0, .bool false] 62) := (hb1.block _ (by simp)).trans (heap_alloc_new w _)
  have hs1 : w.heap.size + 1 ≤ w1.heap.size := by have := hb1.size; simpa using this
  rw [← H.out.2.2.2.2.1]
  have H1 := hid (And.intro hbw1 hr1)
  clear hb1 hbw1 hr1
  go_wp2_with fail
  refine (ref_get _ (some ⟨b, off, none⟩) 16 cap E 6 2 _ _ (by rfl) (by rfl) (by omega) (by exact H.out.1.below H1.out.1) (by omega)).mono ?_
  rintro e w2 ⟨rfl, hb2⟩
  have hbw2 : Below w.heap.size w w2 := H1.out.1.trans (hb2.mono H1.out.1.size)
  have hr2 := (hb2.block _ (by omega)).trans H1.out.2
  have hs2 := hb2.size
  rw [← H.out.2.2.2.1]
  obtain ⟨⟨r0, r1, r2, r3⟩, rf⟩ := cur_cells hr2
  have hc4 := (hbw2.cell (p := ⟨b, off + 4, none⟩) hlt).trans hc4
  have hc5 := (hbw2.cell (p := ⟨b, off + 5, none⟩) hlt).trans hc5
  have hwk := weak_int de
  have hblt : b < w2.heap.size := by omega
  have hrlt : w.heap.size < w2.heap.size := by omega
  have H2 := hid (And.intro hbw2 hr2)
  clear hb2 hbw2 hr2
  rcases hk with rfl | rfl
  · by_cases h1 : sc < 1
    · have hm : toldM 15 sc de ad sections = (Sym.zero, true, 13) := by unfold toldM; rw [if_pos rfl, if_pos (by omega)]
      have Hm := hid hm
      clear hm
      go_wp2
      refine bodyPost_ret (v := .tuple #[.agg Sym.zero.cells.toArray, .int .i64 13]) (by simp [results, Tryz.results69, go_sem, Sym.cells, Sym.zero, mkS, r0, r1, r2, r3, World.cell?_alloc_lt, hrlt]) rfl ?_
      rw [H.out.2.2.1, Hm.out]
      exact ⟨rfl, by have hb := H2.out.1; go_grown⟩
    · by_cases h2 : sections < (sc : Int)
      · have hm : toldM 15 sc de ad sections = (Sym.zero, true, 13) := by unfold toldM; rw [if_pos rfl, if_pos (by omega)]
        have Hm := hid hm
        clear hm
        go_wp2
        refine bodyPost_ret (v := .tuple #[.agg Sym.zero.cells.toArray, .int .i64 13]) (by simp [results, Tryz.results69, go_sem, Sym.cells, Sym.zero, mkS, r0, r1, r2, r3, World.cell?_alloc_lt, hrlt]) rfl ?_
        rw [H.out.2.2.1, Hm.out]
        exact ⟨rfl, by have hb := H2.out.1; go_grown⟩
      · have hm : toldM 15 sc de ad sections = (⟨[], sc, ad, de / 128 % 2 == 1⟩, true, 0) := by unfold toldM; rw [if_pos rfl, if_neg (by omega)]
        have Hm := hid hm
        clear hm
        go_wp2_with fail
        refine (ref_get _ (some ⟨b, off, none⟩) 16 cap E 0 4 _ _ (by rfl) (by rfl) (by omega) (by exact H.out.1.below (H2.out.1.alloc (by omega) _)) (by omega)).mono ?_
        rintro e w3 ⟨rfl, hb3⟩
        have hbw3 : Below w.heap.size w w3 := (H2.out.1.alloc (by omega) _).trans (hb3.mono (by simp; omega))
        have hr3 := (hb3.block w.heap.size (by simp; omega)).trans ((Below.heap_alloc w2 _ _ (by omega)).trans H2.out.2)
        have hs3 := (hb3.block w2.heap.size (by simp)).trans (heap_alloc_new w2 _)
        have hz3 : w2.heap.size + 1 ≤ w3.heap.size := by have := hb3.size; simpa using this
        clear r0 r1 r2 r3 rf
        obtain ⟨⟨r0, r1, r2, r3⟩, rf⟩ := cur_cells hr3
        obtain ⟨⟨s0, s1, s2, s3⟩, sf⟩ := cur_cells hs3
        rw [show leNat (List.take 4 (List.drop 0 E)) = nm from H.out.2.2.2.2.2.1.symm]
        have bnm := H.out.2.2.2.2.2.2
        have H3 := hid hbw3
        clear hb3 hbw3 hr3 hs3 hc4 hc5
        by_cases hk1 : k ≤ nm
        · have ht : (textM names nm) = ([], 13) := by unfold textM; rw [if_pos (by rw [H.out.2.1.len]; exact hk1)]
          have Ht := hid ht
          clear ht
          have hw : IntKind.u64.wrap (k : Int) = k := IntWalk.u64_in _ (by omega)
          go_wp2
          refine bodyPost_ret (v := .tuple #[.agg Sym.zero.cells.toArray, .int .i64 13]) (by simp [results, Tryz.results69, go_sem, Sym.cells, Sym.zero, mkS, r0, r1, r2, r3, World.cell?_alloc_lt, hrlt]) rfl ?_
          rw [H.out.2.2.1, Hm.out, Ht.out]
          exact ⟨rfl, by have hb := H3.out; go_grown⟩
        · have hw : IntKind.u64.wrap (k : Int) = k := IntWalk.u64_in _ (by omega)
          have hsl := fun (w : World) => run_subl (P := Tryz.prog) (w := w) (t := 27) q k capk un_bs (sz_u8 w) .u64 nm (by omega) (by omega)
          simp only [Int.toNat_natCast] at hsl
          have hbn : BS w3 (.slice (subA q nm capk) (k - nm) (capk - nm)) (names.drop nm) := (drop_bs H.out.2.1 (lo := nm) (by omega)).below H3.out
          obtain ⟨L, hL⟩ : ∃ L, L = names.drop nm := ⟨_, rfl⟩
          rw [← hL] at hbn
          have hLl := hbn.len
          have hnl := nul_le L
          have ht : textM names nm = if L.length ≤ nul L ∨ nul L = 0 then ([], 13) else if 255 < nul L then ([], 10) else (L.take (nul L), 0) := by unfold textM; rw [if_neg (by rw [H.out.2.1.len]; exact hk1), ← hL]
          have hNl : (L.take (nul L)).length = nul L := by rw [List.length_take]; omega
          obtain ⟨NL, hNL⟩ : ∃ NL, NL = L.take (nul L) := ⟨_, rfl⟩
          rw [← hNL] at hNl ht
          have hnb : nul L ≤ 140737488355328 := by omega
          have H4 := hid (And.intro ht (And.intro hbn (And.intro hLl (And.intro hNl hNL))))
          clear ht hbn hLl hNl
          go_wp2_with fail
          refine (ref_name _ _ _ _ L (by exact H4.out.2.1)).mono ?_
          rintro e w4 ⟨rfl, rfl⟩
          rw [← hNL]
          clear hNL hL hsl
          have hcast : (nm : Int) + (nul L : Int) ≤ 9223372036854775807 := by omega
          by_cases hz : nul L = 0
          · have hemp : NL = [] := List.eq_nil_of_length_eq_zero (by rw [H4.out.2.2.2.1]; exact hz)
            subst hemp
            have ht : textM names nm = ([], 13) := by rw [H4.out.1, if_pos (Or.inr hz)]
            have Ht := hid ht
            clear ht hz hcast
            go_wp2
            refine bodyPost_ret (v := .tuple #[.agg Sym.zero.cells.toArray, .int .i64 13]) (by simp [results, Tryz.results69, go_sem, Sym.cells, Sym.zero, mkS, r0, r1, r2, r3, World.cell?_alloc_lt, hrlt]) rfl ?_
            rw [H.out.2.2.1, Hm.out, Ht.out]
            exact ⟨rfl, by have hb := H3.out; go_grown⟩
          · have hne : (NL.isEmpty) = false := by
              cases NL with
              | nil => exact absurd (by simpa using H4.out.2.2.2.1.symm) hz
              | cons => rfl
            have hne2 : (NL == []) = false := by cases NL <;> simp_all
            have hlen : NL.length = nul L := H4.out.2.2.2.1
            have hwn : IntKind.i64.wrap (nm : Int) = nm := IntWalk.i64_in _ (by omega)
            by_cases hend : L.length ≤ nul L
            · have hsum : ((nm : Int) + (nul L : Int) == (k : Int)) = true := by rw [beq_iff_eq]; have := H4.out.2.2.1; omega
              have ht : textM names nm = ([], 13) := by rw [H4.out.1, if_pos (Or.inl hend)]
              have Ht := hid ht
              clear ht hend hz
              go_wp2
              refine bodyPost_ret (v := .tuple #[.agg Sym.zero.cells.toArray, .int .i64 13]) (by simp [results, Tryz.results69, go_sem, Sym.cells, Sym.zero, mkS, r0, r1, r2, r3, World.cell?_alloc_lt, hrlt]) rfl ?_
              rw [H.out.2.2.1, Hm.out, Ht.out]
              exact ⟨rfl, by have hb := H3.out; go_grown⟩
            · have hsum : ((nm : Int) + (nul L : Int) == (k : Int)) = false := by rw [beq_eq_false_iff_ne]; have := H4.out.2.2.1; omega
              by_cases hbig : 255 < nul L
              · have ht : textM names nm = ([], 10) := by rw [H4.out.1, if_neg (by omega), if_pos hbig]
                have Ht := hid ht
                clear ht hz
                go_wp2
                refine bodyPost_ret (v := .tuple #[.agg Sym.zero.cells.toArray, .int .i64 10]) (by simp [results, Tryz.results69, go_sem, Sym.cells, Sym.zero, mkS, r0, r1, r2, r3, World.cell?_alloc_lt, hrlt]) rfl ?_
                rw [H.out.2.2.1, Hm.out, Ht.out]
                exact ⟨rfl, by have hb := H3.out; go_grown⟩
              · have ht : textM names nm = (NL, 0) := by rw [H4.out.1, if_neg (by omega), if_neg hbig]
                have Ht := hid ht
                clear ht hz
                go_wp2
                refine bodyPost_ret (v := .tuple #[.agg (Sym.mk NL sc ad (de / 128 % 2 == 1)).cells.toArray, .int .i64 0]) (by simp [results, Tryz.results69, go_sem, Sym.cells, r0, r1, r2, r3, World.cell?_alloc_lt, hrlt]) rfl ?_
                rw [H.out.2.2.1, Hm.out, Ht.out]
                exact ⟨rfl, by have hb := H3.out; go_grown⟩
  · have hm : toldM 3 sc de ad sections = (⟨[], 0, ad, de / 128 % 2 == 1⟩, true, 0) := rfl
    have Hm := hid hm
    clear hm
    go_wp2_with fail
    refine (ref_get _ (some ⟨b, off, none⟩) 16 cap E 0 4 _ _ (by rfl) (by rfl) (by omega) (by exact H.out.1.below (H2.out.1.alloc (by omega) _)) (by omega)).mono ?_
    rintro e w3 ⟨rfl, hb3⟩
    have hbw3 : Below w.heap.size w w3 := (H2.out.1.alloc (by omega) _).trans (hb3.mono (by simp; omega))
    have hr3 := (hb3.block w.heap.size (by simp; omega)).trans ((Below.heap_alloc w2 _ _ (by omega)).trans H2.out.2)
    have hs3 := (hb3.block w2.heap.size (by simp)).trans (heap_alloc_new w2 _)
    have hz3 : w2.heap.size + 1 ≤ w3.heap.size := by have := hb3.size; simpa using this
    clear r0 r1 r2 r3 rf
    obtain ⟨⟨r0, r1, r2, r3⟩, rf⟩ := cur_cells hr3
    obtain ⟨⟨s0, s1, s2, s3⟩, sf⟩ := cur_cells hs3
    rw [show leNat (List.take 4 (List.drop 0 E)) = nm from H.out.2.2.2.2.2.1.symm]
    have bnm := H.out.2.2.2.2.2.2
    have H3 := hid hbw3
    clear hb3 hbw3 hr3 hs3 hc4 hc5
    by_cases hk1 : k ≤ nm
    · have ht : (textM names nm) = ([], 13) := by unfold textM; rw [if_pos (by rw [H.out.2.1.len]; exact hk1)]
      have Ht := hid ht
      clear ht
      have hw : IntKind.u64.wrap (k : Int) = k := IntWalk.u64_in _ (by omega)
      go_wp2
      refine bodyPost_ret (v := .tuple #[.agg Sym.zero.cells.toArray, .int .i64 13]) (by simp [results, Tryz.results69, go_sem, Sym.cells, Sym.zero, mkS, r0, r1, r2, r3, World.cell?_alloc_lt, hrlt]) rfl ?_
      rw [H.out.2.2.1, Hm.out, Ht.out]
      exact ⟨rfl, by have hb := H3.out; go_grown⟩
    · have hw : IntKind.u64.wrap (k : Int) = k := IntWalk.u64_in _ (by omega)
      have hsl := fun (w : World) => run_subl (P := Tryz.prog) (w := w) (t := 27) q k capk un_bs (sz_u8 w) .u64 nm (by omega) (by omega)
      simp only [Int.toNat_natCast] at hsl
      have hbn : BS w3 (.slice (subA q nm capk) (k - nm) (capk - nm)) (names.drop nm) := (drop_bs H.out.2.1 (lo := nm) (by omega)).below H3.out
      obtain ⟨L, hL⟩ : ∃ L, L = names.drop nm := ⟨_, rfl⟩
      rw [← hL] at hbn
      have hLl := hbn.len
      have hnl := nul_le L
      have ht : textM names nm = if L.length ≤ nul L ∨ nul L = 0 then ([], 13) else if 255 < nul L then ([], 10) else (L.take (nul L), 0) := by unfold textM; rw [if_neg (by rw [H.out.2.1.len]; exact hk1), ← hL]
      have hNl : (L.take (nul L)).length = nul L := by rw [List.length_take]; omega
      obtain ⟨NL, hNL⟩ : ∃ NL, NL = L.take (nul L) := ⟨_, rfl⟩
      rw [← hNL] at hNl ht
      have hnb : nul L ≤ 140737488355328 := by omega
      have H4 := hid (And.intro ht (And.intro hbn (And.intro hLl (And.intro hNl hNL))))
      clear ht hbn hLl hNl
      go_wp2_with fail
      refine (ref_name _ _ _ _ L (by exact H4.out.2.1)).mono ?_
      rintro e w4 ⟨rfl, rfl⟩
      rw [← hNL]
      clear hNL hL hsl
      have hcast : (nm : Int) + (nul L : Int) ≤ 9223372036854775807 := by omega
      by_cases hz : nul L = 0
      · have hemp : NL = [] := List.eq_nil_of_length_eq_zero (by rw [H4.out.2.2.2.1]; exact hz)
        subst hemp
        have ht : textM names nm = ([], 13) := by rw [H4.out.1, if_pos (Or.inr hz)]
        have Ht := hid ht
        clear ht hz hcast
        go_wp2
        refine bodyPost_ret (v := .tuple #[.agg Sym.zero.cells.toArray, .int .i64 13]) (by simp [results, Tryz.results69, go_sem, Sym.cells, Sym.zero, mkS, r0, r1, r2, r3, World.cell?_alloc_lt, hrlt]) rfl ?_
        rw [H.out.2.2.1, Hm.out, Ht.out]
        exact ⟨rfl, by have hb := H3.out; go_grown⟩
      · have hne : (NL.isEmpty) = false := by
          cases NL with
          | nil => exact absurd (by simpa using H4.out.2.2.2.1.symm) hz
          | cons => rfl
        have hne2 : (NL == []) = false := by cases NL <;> simp_all
        have hlen : NL.length = nul L := H4.out.2.2.2.1
        have hwn : IntKind.i64.wrap (nm : Int) = nm := IntWalk.i64_in _ (by omega)
        by_cases hend : L.length ≤ nul L
        · have hsum : ((nm : Int) + (nul L : Int) == (k : Int)) = true := by rw [beq_iff_eq]; have := H4.out.2.2.1; omega
          have ht : textM names nm = ([], 13) := by rw [H4.out.1, if_pos (Or.inl hend)]
          have Ht := hid ht
          clear ht hend hz
          go_wp2
          refine bodyPost_ret (v := .tuple #[.agg Sym.zero.cells.toArray, .int .i64 13]) (by simp [results, Tryz.results69, go_sem, Sym.cells, Sym.zero, mkS, r0, r1, r2, r3, World.cell?_alloc_lt, hrlt]) rfl ?_
          rw [H.out.2.2.1, Hm.out, Ht.out]
          exact ⟨rfl, by have hb := H3.out; go_grown⟩
        · have hsum : ((nm : Int) + (nul L : Int) == (k : Int)) = false := by rw [beq_eq_false_iff_ne]; have := H4.out.2.2.1; omega
          by_cases hbig : 255 < nul L
          · have ht : textM names nm = ([], 10) := by rw [H4.out.1, if_neg (by omega), if_pos hbig]
            have Ht := hid ht
            clear ht hz
            go_wp2
            refine bodyPost_ret (v := .tuple #[.agg Sym.zero.cells.toArray, .int .i64 10]) (by simp [results, Tryz.results69, go_sem, Sym.cells, Sym.zero, mkS, r0, r1, r2, r3, World.cell?_alloc_lt, hrlt]) rfl ?_
            rw [H.out.2.2.1, Hm.out, Ht.out]
            exact ⟨rfl, by have hb := H3.out; go_grown⟩
          · have ht : textM names nm = (NL, 0) := by rw [H4.out.1, if_neg (by omega), if_neg hbig]
            have Ht := hid ht
            clear ht hz
            go_wp2
            refine bodyPost_ret (v := .tuple #[.agg (Sym.mk NL 0 ad (de / 128 % 2 == 1)).cells.toArray, .int .i64 0]) (by simp [results, Tryz.results69, go_sem, Sym.cells, r0, r1, r2, r3, World.cell?_alloc_lt, hrlt]) rfl ?_
            rw [H.out.2.2.1, Hm.out, Ht.out]
            exact ⟨rfl, by have hb := H3.out; go_grown⟩

end Go.Proofs.YthhjdkcnkdffcaaGreat.Nl

namespace Go.Proofs.YthhjdkcnkdffcaaGreat.Nl
set_option linter.unusedSimpArgs false
set_option linter.unusedVariables false
open Go.RowKit Go.Maps

theorem symsCells_at (l : List Sym) (k i : Nat) (hi : i < 4) : (symsCells l)[k * 4 + i]? = (l[k]?).bind (fun s => s.cells[i]?) := by
  induction l generalizing k with
  | nil => simp [symsCells]
  | cons s r ih =>
    have e : symsCells (s :: r) = s.cells ++ symsCells r := rfl
    have hl : s.cells.length = 4 := rfl
    rw [e]
    cases k with
    | zero => rw [List.getElem?_append_left (by rw [hl]; omega)]; simp
    | succ k =>
      rw [List.getElem?_append_right (by rw [hl]; omega), hl, show (k + 1) * 4 + i - 4 = k * 4 + i by omega, ih]
      simp

/-- A slice of the call's own that holds symbols: where its cells lie. -/
theorem ownsSyms_at {w : World} {base : Nat} {a : Option Addr} {n cap : Nat} {out : List Sym} (h : w.ownsRow base 62 4 (.slice a n cap) n (symsCells out)) (hn : n = out.length) (hpos : 0 < n) :
    ∃ g, a = some ⟨g, 0, none⟩ ∧ base ≤ g ∧ ∀ k s, out[k]? = some s → w.cell? ⟨g, k * 4, none⟩ = some (.string (mkS s.name)) ∧ w.cell? ⟨g, k * 4 + 1, none⟩ = some (.int .i64 s.sect) ∧ w.cell? ⟨g, k * 4 + 2, none⟩ = some (.int .u64 s.val) ∧ w.cell? ⟨g, k * 4 + 3, none⟩ = some (.bool s.weak) := by
  have h0 := h
  rcases h.2 with ⟨he, hn0⟩ | ⟨g, cap', cur, he, hb, rest⟩
  · omega
  · cases he
    refine ⟨g, rfl, hb, fun k s hs => ?_⟩
    have hk : k < n := by have := (List.getElem?_eq_some_iff.1 hs).1; omega
    have hc := fun i (hi : i < 4) => (h0.cellAt (k * 4 + i) (by omega)).trans ((symsCells_at out k i hi).trans (by rw [hs]))
    exact ⟨hc 0 (by omega), hc 1 (by omega), hc 2 (by omega), hc 3 (by omega)⟩

structure RAllRel (w : World) (tv nv : Value) (table names : List UInt8) (sections : Int) (M : List Sym × Nat) (i9 v8 : Value) (wr : World) (o m : Nat) (out : List Sym) : Prop where
  below : Below w.heap.size w wr
  idx : i9 = .int .i64 (o : Int)
  len : table.length = o + 16 * m
  own : wr.ownsRow w.heap.size 62 4 v8 out.length (symsCells out)
  few : out.length ≤ 4096
  val : allM names sections m (table.drop o) out = M

def RAllAt (w : World) (tv nv : Value) (table names : List UInt8) (sections : Int) (M : List Sym × Nat) (i9 v8 : Value) (wr : World) : Prop :=
  ∃ o m out, RAllRel w tv nv table names sections M i9 v8 wr o m out

theorem RAllRel.keep {w : World} {tv nv : Value} {table names : List UInt8} {sections : Int} {M : List Sym × Nat} {i9 v8 : Value} {wr : World} {o m : Nat} {out : List Sym}
    (R : RAllRel w tv nv table names sections M i9 v8 wr o (m + 1) out) {w' : World} (hb : Below wr.heap.size wr w') (hv : allM names sections m (table.drop (o + 16)) out = M) :
    RAllRel w tv nv table names sections M (.int .i64 ((o : Int) + 16)) v8 w' (o + 16) m out :=
  ⟨R.below.trans (hb.mono R.below.size), by rw [Int.natCast_add]; rfl, by rw [R.len]; omega, ownsRow_below R.own hb, R.few, hv⟩

theorem entryM_not {E names : List UInt8} {sections : Int} (h : ¬ ((E[4]?.getD 0).toNat = 15 ∨ (E[4]?.getD 0).toNat = 3)) : entryM E names sections = none := by
  unfold entryM toldM
  rw [if_neg (fun e => h (Or.inl e)), if_neg (fun e => h (Or.inr e))]
  rfl

theorem entryM_is {E names : List UInt8} {sections : Int} (h : (E[4]?.getD 0).toNat = 15 ∨ (E[4]?.getD 0).toNat = 3) : entryM E names sections = some (oneM E names sections) := by
  have : ∃ r, entryM E names sections = some r := by
    obtain ⟨s0, is, er, ht⟩ : ∃ s0 is er, toldM (E[4]?.getD 0).toNat (E[5]?.getD 0).toNat (leNat ((E.drop 6).take 2)) (leNat ((E.drop 8).take 8)) sections = (s0, is, er) := ⟨_, _, _, rfl⟩
    have hi : is = true := by
      unfold toldM at ht
      rcases h with h | h
      · rw [h, if_pos rfl] at ht
        split at ht <;> (cases ht; rfl)
      · rw [h, if_neg (by omega), if_pos rfl] at ht
        cases ht; rfl
    rw [entryM_told ht, if_neg (by simp [hi])]
    by_cases he : er ≠ 0
    · rw [if_pos he]; exact ⟨_, rfl⟩
    · rw [if_neg he]
      by_cases hx : (textM names (leNat (E.take 4))).2 ≠ 0
      · rw [if_pos hx]; exact ⟨_, rfl⟩
      · rw [if_neg hx]; exact ⟨_, rfl⟩
  obtain ⟨r, hr⟩ := this
  unfold oneM; rw [hr]; rfl

set_option maxHeartbeats 2000000 in
set_option maxRecDepth 8000 in
theorem ref_all (w : World) (p q : Option Addr) (n cap k capk : Nat) (table names : List UInt8) (sections : Int) (ht : BS w (.slice p n cap) table) (hn : BS w (.slice q k capk) names) :
    Calls Tryz.prog 48 #[.slice p n cap, .slice q k capk, .int .i64 sections] w (AllPost w (tableM table names sections)) := by
  have hl := ht.len
  have hcp := ht.cap
  by_cases hm : n % 16 = 0
  · have hm1 : ((n : Int) % 16 != 0) = false := by simp; omega
    have hM : tableM table names sections = allM names sections (n / 16) table [] := by unfold tableM; rw [if_neg (by omega), hl]
    obtain ⟨M, hMM⟩ : ∃ M, M = tableM table names sections := ⟨_, rfl⟩
    rw [← hMM] at hM ⊢
    have H := hid (And.intro ht (And.intro hn (And.intro hM.symm (And.intro hl hm))))
    clear ht hn hM hMM hl hm
    go_enter Tryz.func48, Tryz.ntmps48
    go_wp2_with fail
    go_loopw [8, 9] (fun v8 i9 wr => RAllAt w (.slice p n cap) (.slice q k capk) table names sections M i9 v8 wr) (fun _ i9 _ => n - (intOf i9).toNat)
    case atStart =>
      obtain ⟨ht, hn, hM, hl, hm⟩ := H.out
      exact ⟨0, n / 16, [], ⟨Below.refl _ _, rfl, by omega, World.ownsRow_nil _ _ _ _, by simp, hM⟩⟩
    case round =>
      obtain ⟨o, m, out, R⟩ := hrel
      obtain ⟨a8, c8, rfl⟩ := ownsRow_form R.own
      obtain rfl := R.idx
      have hfew := R.few
      have hszr := R.below.size
      have hnl : n = o + 16 * m := by rw [← R.len]; exact H.out.2.2.2.1.symm
      cases m with
      | zero =>
        have HR := hid R
        have hle : ¬ o < n := by omega
        clear R hnl
        go_wp2
        go_ret2
        have R := HR.out
        have hv := R.val
        unfold allM at hv
        subst hv
        exact ⟨_, rfl, R.own, R.below⟩
      | succ m =>
        obtain ⟨E, hE⟩ : ∃ E, E = (table.drop (o)).take 16 := ⟨_, rfl⟩
        have hEl : E.length = 16 := by rw [hE, List.length_take, List.length_drop, R.len]; omega
        obtain ⟨b, off, hp, hcell⟩ := H.out.1.at (by omega)
        subst hp
        have hbE : BS wr (.slice (subA (some ⟨b, off, none⟩) (o) cap) 16 (cap - o)) E := by
          have ht := H.out.1
          have hl := ht.len
          subst hl
          have := sub_bs ht (lo := o) (hi := o + 16) (m := cap) (by omega) (by omega) (by omega) (Nat.le_refl _)
          rw [Nat.add_sub_cancel_left, ← hE] at this
          exact this.below R.below
        obtain ⟨x4, hx4⟩ : ∃ x, E[4]? = some x := ⟨_, List.getElem?_eq_getElem (by omega)⟩
        obtain ⟨kd, hkd⟩ : ∃ kd, (E[4]?.getD 0).toNat = kd := ⟨_, rfl⟩
        have bkd : kd < 256 := by rw [← hkd]; exact (E[4]?.getD 0).toNat_lt
        have hc4 : wr.cell? ⟨b, off + (o + 4), none⟩ = some (.int .u8 kd) := by
          have ht4 : table[o + 4]? = some x4 := by
            rw [hE, List.getElem?_take_of_lt (by omega), List.getElem?_drop] at hx4; exact hx4
          have := hcell _ _ ht4
          rw [← hkd, hx4]
          exact (R.below.cell (p := ⟨b, off + (o + 4), none⟩) (World.block_lt_of_cell? w _ this)).trans this
        have hval := R.val
        unfold allM at hval
        rw [← hE, List.drop_drop] at hval
        have hlt : o < n := by omega
        have hlt4 : o + 4 < n := by omega
        have hcap : n ≤ cap := hcp.1
        have hsl := fun (w : World) => run_sub2 (P := Tryz.prog) (w := w) (t := 27) (some ⟨b, off, none⟩) n cap un_bs (sz_u8 w) .i64 .i64 (o : Int) ((o : Int) + 16) (by omega) (by omega) (by omega)
        have hw4 : IntKind.i64.wrap ((o : Int) + 4) = (o : Int) + 4 := IntWalk.i64_in _ (by omega)
        have hbn : BS wr (.slice q k capk) names := H.out.2.1.below R.below
        have HR := hid (And.intro R (And.intro hE (And.intro hEl (And.intro hbE (And.intro hkd (And.intro hval (And.intro bkd hbn)))))))
        clear R hE hEl hbE hkd hval hx4 hcell hnl hbn
        have e1 : ((o : Int) + 16).toNat = o + 16 := by omega
        simp only [Int.toNat_natCast, e1, Nat.add_sub_cancel_left] at hsl
        clear e1
        go_wp2_with fail
        refine (ref_told _ kd HR.out.2.2.2.2.2.2.1).mono ?_
        rintro e w1 ⟨rfl, rfl⟩
        by_cases hkt : kd = 15 ∨ kd = 3
        · rw [decide_eq_true hkt]
          obtain ⟨er, s, hone⟩ : ∃ er s, oneM E names sections = (er, s) := ⟨_, _, rfl⟩
          have hval2 : (if er ≠ 0 then (([], er) : List Sym × Nat) else if out.any (fun x => x.name == s.name) then ([], 21) else if out.length = 4096 then ([], 11) else allM names sections m (table.drop (o + 16)) (out ++ [s])) = M := by
            have h1 := HR.out.2.2.2.2.2.1
            rw [entryM_is (by rw [HR.out.2.2.2.2.1]; exact hkt), hone] at h1
            exact h1
          have Hone := hid (And.intro hone (And.intro hval2 hkt))
          clear hone hval2 hkt
          go_wp2_with fail
          refine (ref_one _ _ q _ k capk E names sections (by exact HR.out.2.2.2.1) (by exact HR.out.2.2.2.2.2.2.2) kd (by exact HR.out.2.2.2.2.1) (by exact Hone.out.2.2)).mono ?_
          rintro e w2 ⟨rfl, hb2⟩
          rw [Hone.out.1]
          have hs2 := hb2.size
          have Hb2 := hid hb2
          clear hb2 hsl
          obtain ⟨nl, ss, sv, sw⟩ := s
          simp only [Sym.cells]
          by_cases he : er = 0
          · subst he
            obtain ⟨Ws, hWs⟩ : ∃ Ws, Ws = w2.alloc (.cells #[.string (mkS nl), .int .i64 ss, .int .u64 sv, .bool sw] 62) := ⟨_, rfl⟩
            have hbs : Below wr.heap.size wr Ws := by rw [hWs]; exact Hb2.out.alloc (by omega) _
            obtain ⟨⟨s0, s1, s2, s3⟩, -⟩ := cur_cells (show Ws.heap[w2.heap.size]? = some _ by rw [hWs]; exact heap_alloc_new w2 _)
            have hos := ownsRow_below HR.out.1.own hbs
            have hzs : Ws.heap.size = w2.heap.size + 1 := by rw [hWs]; simp
            have hzs' : w2.heap.size < Ws.heap.size := by omega
            have Hs := hid (And.intro hbs (And.intro hos hzs))
            clear hbs hos hzs
            go_wp2_with fail
            rw [← hWs]
            clear hWs
            go_loopw [12] (fun i12 wq => ∃ kk q : Nat, kk ≤ out.length ∧ i12 = .int .i64 (kk : Int) ∧ (out.take kk).any (fun x => x.name == nl) = false ∧ wq = Ws.drewN q) (fun i12 _ => out.length - (intOf i12).toNat)
            case atStart => exact ⟨0, 0, Nat.zero_le _, rfl, rfl, rfl⟩
            case round =>
              obtain ⟨kk, q1, hkk, rfl, hany, rfl⟩ := hrel
              have Hany := hid hany
              clear hany
              by_cases hlk : kk < out.length
              · obtain ⟨g, rfl, hg, hgc⟩ := ownsSyms_at Hs.out.2.1 rfl (by omega)
                obtain ⟨sk, hsk⟩ : ∃ sk, out[kk]? = some sk := ⟨_, List.getElem?_eq_getElem hlk⟩
                obtain ⟨g0, -⟩ := hgc kk sk hsk
                have hsnoc : (out.take (kk + 1)).any (fun x => x.name == nl) = (sk.name == nl) := by
                  rw [take_snoc hsk, List.any_append, Hany.out]; simp
                have Hsn := hid (And.intro hsnoc hsk)
                clear hsnoc hsk hgc hg
                obtain ⟨bq, hbq⟩ : ∃ bq, bq = (sk.name == nl) := ⟨_, rfl⟩
                cases bq with
                | true =>
                  have hbq' : (sk.name == nl) = true := hbq.symm
                  clear hbq
                  go_wp2
                  go_quiet (fail)
                  go_wp2
                  go_ret2
                  have hval := Hone.out.2.1
                  have hin : out.any (fun x => x.name == nl) = true := by
                    rw [List.any_eq_true]
                    exact ⟨sk, List.mem_of_getElem? Hsn.out.2, hbq'⟩
                  rw [if_neg (by simp), if_pos hin] at hval
                  rw [← hval]
                  exact AllPost_err (below_drewN (below_drewN (HR.out.1.below.trans (Hs.out.1.mono HR.out.1.below.size)) _) _)
                | false =>
                  have hbq' : (sk.name == nl) = false := hbq.symm
                  clear hbq
                  go_wp2
                  go_quiet (fail)
                  go_wp2
                  go_roundw
                  case rel => exact ⟨kk + 1, _, by omega, by go_num, by rw [Hsn.out.1]; exact hbq', rfl⟩
                  case measure => simp [intOf]; omega
              · obtain rfl : kk = out.length := by omega
                have hany := Hany.out
                rw [List.take_length] at hany
                have hval : (if out.length = 4096 then (([], 11) : List Sym × Nat) else allM names sections m (table.drop (o + 16)) (out ++ [⟨nl, ss, sv, sw⟩])) = M := by
                  have := Hone.out.2.1
                  rw [if_neg (by simp), if_neg (by rw [hany]; simp)] at this
                  exact this
                have Hv := hid hval
                clear hany hval
                by_cases h4 : out.length = 4096
                · have h4' : ((out.length : Int) == 4096) = true := by rw [beq_iff_eq]; omega
                  have H4 := hid h4
                  clear h4
                  go_wp2
                  go_ret2
                  have hval := Hv.out
                  rw [if_pos H4.out] at hval
                  rw [← hval]
                  exact AllPost_err (below_drewN (HR.out.1.below.trans (Hs.out.1.mono HR.out.1.below.size)) _)
                · have h4' : ((out.length : Int) == 4096) = false := by rw [beq_eq_false_iff_ne]; omega
                  have H4 := hid h4
                  clear h4
                  obtain ⟨i0, hi, hz0, hz1, hz2⟩ := info_parts Tryz.infoSym
                  have Hi := hid (And.intro hi (And.intro hz0 (And.intro hz1 hz2)))
                  clear hi hz0 hz1 hz2
                  go_wp2_with (at_builtin; refine wpList_append_own _ rfl _ _ 56 rfl w.heap.size 62 i0 _ 4 40 un_syms Hi.out.1 Hi.out.2.1 Hi.out.2.2.1 Hi.out.2.2.2 rfl (by decide) _ _ _ rfl (ownsRow_drewN (Hs.out.2.1.alloc _) q1) ⟨Ws.heap.size, 0, none⟩ 1 1 [.string (mkS nl), .int .i64 ss, .int .u64 sv, .bool sw] rfl rfl (fun j u hu => cells_new Ws _ _ j u hu) ?c2 ?c3 ?c4 ?c5 ?_)
                  case c2 => intro u hu; simp at hu; rcases hu with rfl | rfl | rfl | rfl <;> rfl
                  case c3 => exact Nat.le_trans (Nat.add_le_add_right HR.out.1.few 1) (by decide)
                  case c4 => have := HR.out.1.few; omega
                  case c5 => show _ ≤ (Ws.alloc _).heap.size; simp; omega
                  intro v' w5 hown5 hgrow5 _
                  have H5 := hid (And.intro hown5 hgrow5)
                  clear hown5 hgrow5
                  go_wp2
                  obtain ⟨hown5, hgrow5⟩ := H5.out
                  have R := HR.out.1
                  have hval := Hv.out
                  rw [if_neg H4.out] at hval
                  have hlt8 := fun (k : Nat) (hk : Value.ownBlock (.slice a8 out.length c8) = some k) => (Hs.out.2.1.lt k hk)
                  refine ⟨⟨o + 16, m, out ++ [⟨nl, ss, sv, sw⟩], ⟨?_, ?_, ?_, ?_, ?_, hval⟩⟩, by simp [intOf]; omega⟩
                  · refine Below.grown (below_drewN (Below.alloc (R.below.trans (Hs.out.1.mono R.below.size)) (by omega) _) q1) hgrow5 (by show _ ≤ (Ws.alloc _).heap.size; simp; omega) (fun k hk => (hlt8 k hk).1)
                  · rw [Int.natCast_add]; rfl
                  · rw [R.len]; omega
                  · rw [List.length_append, symsCells_snoc]; exact hown5
                  · have := R.few; have := H4.out; simp; omega
          · have hne : ((er : Int) != 0) = true := by rw [bne_iff_ne]; omega
            have He := hid he
            clear he
            go_wp2
            go_ret2
            have hval := Hone.out.2.1
            rw [if_pos He.out] at hval
            rw [← hval]
            exact AllPost_err ((HR.out.1.below.trans (Hb2.out.mono HR.out.1.below.size)).alloc (by omega) _)
        · rw [decide_eq_false hkt]
          have Hkt := hid hkt
          clear hkt hsl
          go_wp2
          have hval := HR.out.2.2.2.2.2.1
          rw [entryM_not (by rw [HR.out.2.2.2.2.1]; exact Hkt.out)] at hval
          have hr := HR.out.1.keep (Below.refl _ _) hval
          exact ⟨⟨o + 16, m, out, hr⟩, by simp [intOf]; omega⟩
  · have hm1 : ((n : Int) % 16 != 0) = true := by simp; omega
    have hM : tableM table names sections = ([], 13) := by unfold tableM; rw [if_pos (by omega)]
    rw [hM]
    clear ht hn hl hcp hM
    go_enter Tryz.func48, Tryz.ntmps48
    go_wp2
    go_ret2
    exact ⟨_, rfl, World.ownsRow_nil _ _ _ _, Below.refl _ _⟩

end Go.Proofs.YthhjdkcnkdffcaaGreat.Nl

namespace Go.Proofs.YthhjdkcnkdffcaaGreat.Nl
set_option linter.unusedSimpArgs false
set_option linter.unusedVariables false
open Go.RowKit Go.Maps

/-- The value v reads in w as the symbols l: nil or not. -/
def SS (w : World) (v : Value) (l : List Sym) : Prop :=
  ∃ (a : Option Addr) (cap : Nat), v = .slice a l.length cap ∧ l.length ≤ cap ∧ l.length ≤ 140737488355328 ∧
    (l ≠ [] → ∃ g off, a = some ⟨g, off, none⟩ ∧ ∀ k s, l[k]? = some s → w.cell? ⟨g, off + k * 4, none⟩ = some (.string (mkS s.name)) ∧ w.cell? ⟨g, off + k * 4 + 1, none⟩ = some (.int .i64 s.sect) ∧ w.cell? ⟨g, off + k * 4 + 2, none⟩ = some (.int .u64 s.val) ∧ w.cell? ⟨g, off + k * 4 + 3, none⟩ = some (.bool s.weak))

theorem SS.below {w w' : World} {v : Value} {l : List Sym} (h : SS w v l) (hb : Below w.heap.size w w') : SS w' v l := by
  obtain ⟨a, cap, rfl, h1, h2, h3⟩ := h
  refine ⟨a, cap, rfl, h1, h2, fun hne => ?_⟩
  obtain ⟨g, off, rfl, hc⟩ := h3 hne
  have hk : ∀ (p : Addr) u, w.cell? p = some u → w'.cell? p = some u := fun p u hp => (hb.cell (World.block_lt_of_cell? w p hp)).trans hp
  exact ⟨g, off, rfl, fun k s hs => ⟨hk _ _ (hc k s hs).1, hk _ _ (hc k s hs).2.1, hk _ _ (hc k s hs).2.2.1, hk _ _ (hc k s hs).2.2.2⟩⟩

theorem SS.of_owns {w : World} {base : Nat} {v : Value} {l : List Sym} (h : w.ownsRow base 62 4 v l.length (symsCells l)) (hl : l.length ≤ 140737488355328) : SS w v l := by
  have h0 := h
  rcases h.2 with ⟨rfl, hn⟩ | ⟨g, cap, cur, rfl, hb, hg, hnc, hcm, rest⟩
  · have : l = [] := List.eq_nil_of_length_eq_zero hn
    subst this
    exact ⟨none, 0, rfl, Nat.le_refl _, by simp, fun h => absurd rfl h⟩
  · refine ⟨_, cap, rfl, hnc, hl, fun hne => ?_⟩
    obtain ⟨g', e, _, hc⟩ := ownsSyms_at h0 rfl (List.length_pos_iff.2 hne)
    cases e
    exact ⟨g, 0, rfl, fun k s hs => by rw [Nat.zero_add]; exact hc k s hs⟩

theorem SS.len {w : World} {a : Option Addr} {n cap : Nat} {l : List Sym} (h : SS w (.slice a n cap) l) : l.length = n := by
  obtain ⟨a', cap', he, _⟩ := h
  cases he; rfl

theorem SS.form {w : World} {v : Value} {l : List Sym} (h : SS w v l) : ∃ a cap, v = .slice a l.length cap := by
  obtain ⟨a, cap, rfl, _⟩ := h
  exact ⟨a, cap, rfl⟩

theorem SS.at {w : World} {a : Option Addr} {n cap : Nat} {l : List Sym} (h : SS w (.slice a n cap) l) (hn : 0 < n) :
    ∃ g off, a = some ⟨g, off, none⟩ ∧ ∀ k s, l[k]? = some s → w.cell? ⟨g, off + k * 4, none⟩ = some (.string (mkS s.name)) ∧ w.cell? ⟨g, off + k * 4 + 1, none⟩ = some (.int .i64 s.sect) ∧ w.cell? ⟨g, off + k * 4 + 2, none⟩ = some (.int .u64 s.val) ∧ w.cell? ⟨g, off + k * 4 + 3, none⟩ = some (.bool s.weak) := by
  obtain ⟨a', cap', he, h1, h2, h3⟩ := h
  cases he
  exact h3 (by intro e; rw [e] at hn; exact absurd hn (by simp))

end Go.Proofs.YthhjdkcnkdffcaaGreat.Nl

namespace Go.Proofs.YthhjdkcnkdffcaaGreat.Nl
set_option linter.unusedSimpArgs false
set_option linter.unusedVariables false
open Go.RowKit Go.Maps

theorem mkS_data (s : ByteArray) : mkS s.data.toList = s := by cases s; rfl

set_option maxHeartbeats 400000 in
set_option maxRecDepth 8000 in
theorem find_fn (w : World) (s : Sym) (nb : Nat) (nl : List UInt8) (hc : w.cell? ⟨nb, 0, none⟩ = some (.string (mkS nl))) :
    Calls Tryz.prog 176 #[.agg #[.string (mkS s.name), .int .i64 s.sect, .int .u64 s.val, .bool s.weak], .pointer (some ⟨nb, 0, none⟩)] w fun e w' => e = .returned (.bool (s.name == nl)) ∧ Below w.heap.size w w' := by
  have hlt := World.block_lt_of_cell? w _ hc
  have hlt' : nb < w.heap.size := hlt
  go_enter Tryz.func176, Tryz.ntmps176
  go_wp2
  go_ret
  exact ⟨rfl, (Below.refl _ _).alloc (Nat.le_refl _) _⟩

def posM (l : List Sym) (nl : List UInt8) : Nat := l.findIdx (fun s => s.name == nl)
def idxM (l : List Sym) (nl : List UInt8) : Int := if posM l nl < l.length then (posM l nl : Int) else -1
theorem idxM_lt {l : List Sym} {nl : List UInt8} (h : posM l nl < l.length) : idxM l nl = posM l nl := if_pos h
theorem idxM_no {l : List Sym} {nl : List UInt8} (h : ¬ posM l nl < l.length) : idxM l nl = -1 := if_neg h

set_option maxHeartbeats 400000 in
set_option maxRecDepth 8000 in
theorem index_fn (w : World) (v : Value) (l : List Sym) (nb : Nat) (nl : List UInt8) (hv : SS w v l) (hc : w.cell? ⟨nb, 0, none⟩ = some (.string (mkS nl))) :
    Calls Tryz.prog 175 #[v, .func (.func 176) #[] #[.pointer (some ⟨nb, 0, none⟩)]] w fun e w' =>
      e = .returned (.int .i64 (idxM l nl)) ∧ Below w.heap.size w w' := by
  obtain ⟨a, c, rfl⟩ := hv.form
  have hll : l.length ≤ 140737488355328 := by obtain ⟨_, _, _, _, h, _⟩ := hv; exact h
  have hpl : posM l nl ≤ l.length := List.findIdx_le_length
  have H := hid (And.intro hv hc)
  clear hv hc
  go_enter Tryz.func175, Tryz.ntmps175
  go_wp2_with fail
  go_loopw [8] (fun i wr => ∃ k : Nat, k ≤ posM l nl ∧ i = .int .i64 (k : Int) ∧ Below w.heap.size w wr) (fun i _ => l.length - (intOf i).toNat)
  case atStart => exact ⟨0, Nat.zero_le _, rfl, Below.refl _ _⟩
  case round =>
    obtain ⟨k, hk, rfl, hb⟩ := hrel
    have hsz := hb.size
    by_cases hlt : k < l.length
    · have hvr := H.out.1.below hb
      obtain ⟨g, off, rfl, hcs⟩ := hvr.at (by omega)
      obtain ⟨s, hs⟩ : ∃ s, l[k]? = some s := ⟨_, List.getElem?_eq_getElem hlt⟩
      obtain ⟨x0, x1, x2, x3⟩ := hcs k s hs
      have hcb := (hb.cell (p := ⟨nb, 0, none⟩) (World.block_lt_of_cell? w _ H.out.2)).trans H.out.2
      have hsk : l[k] = s := (List.getElem?_eq_some_iff.1 hs).2
      have Hs := hid (And.intro hsk (And.intro hcb hb))
      clear hcs hs hvr hsk hcb hb
      obtain ⟨bq, hbq⟩ : ∃ bq, bq = (s.name == nl) := ⟨_, rfl⟩
      go_wp2_with fail
      refine (find_fn _ s nb nl (by exact Hs.out.2.1)).mono ?_
      rintro e w1 ⟨rfl, hb1⟩
      rw [← hbq]
      have Hb1 := hid (And.intro hb1 hbq)
      clear hb1 hbq
      cases bq with
      | true =>
        go_wp2
        go_ret
        have hkp : posM l nl = k := by
          have h1 : posM l nl ≤ k := by
            unfold posM
            rcases Nat.lt_or_ge k (List.findIdx (fun s => s.name == nl) l) with h | h
            · have := List.not_of_lt_findIdx h
              rw [Hs.out.1] at this
              exact absurd (Hb1.out.2) (by simp [this])
            · exact h
          omega
        refine ⟨?_, Hs.out.2.2.trans (Hb1.out.1.mono Hs.out.2.2.size)⟩
        rw [idxM_lt (by omega), hkp]
        rfl
      | false =>
        have hkp : k < posM l nl := by
          unfold posM at hk ⊢
          rcases Nat.lt_or_eq_of_le hk with h | h
          · exact h
          · exfalso
            have h2 := List.findIdx_getElem (p := fun s : Sym => s.name == nl) (xs := l) (w := by rw [← h]; exact hlt)
            have h3 : l[List.findIdx (fun s => s.name == nl) l]'(by rw [← h]; exact hlt) = s := by rw [← Hs.out.1]; congr 1; exact h.symm
            rw [h3] at h2
            exact absurd Hb1.out.2 (by simp [h2])
        go_wp2
        exact ⟨⟨k + 1, by omega, by go_num, Hs.out.2.2.trans (Hb1.out.1.mono Hs.out.2.2.size)⟩, by simp [intOf]; omega⟩
    · have hkp : posM l nl = k := by omega
      have Hp := hid (And.intro hkp hb)
      clear hkp hb
      go_wp2
      go_ret
      rw [idxM_no (by rw [Hp.out.1]; exact hlt)]
      exact ⟨rfl, Hp.out.2⟩

/-- What Find answers. -/
def findM (r : List Sym × Nat) (nl : List UInt8) : Sym × Bool × Nat :=
  if r.2 ≠ 0 then (Sym.zero, false, r.2)
  else match r.1[posM r.1 nl]? with
    | none => (Sym.zero, false, 0)
    | some s => (s, true, 0)

theorem tableM_err (names : List UInt8) (sections : Int) : ∀ (n : Nat) (t : List UInt8) (out : List Sym), out.length ≤ 4096 → (((allM names sections n t out).2 ≠ 0 → (allM names sections n t out).1 = []) ∧ (allM names sections n t out).1.length ≤ 4096)
  | 0, _, out, h => ⟨fun h => absurd rfl h, h⟩
  | n + 1, t, out, h => by
    unfold allM
    cases hE : entryM (t.take 16) names sections with
    | none => exact tableM_err names sections n _ out h
    | some r =>
      obtain ⟨e, s⟩ := r
      dsimp only
      by_cases he : e ≠ 0
      · rw [if_pos he]; exact ⟨fun _ => rfl, by simp⟩
      · rw [if_neg he]
        by_cases h1 : out.any (fun x => x.name == s.name) = true
        · rw [if_pos h1]; exact ⟨fun _ => rfl, by simp⟩
        · rw [if_neg h1]
          by_cases h2 : out.length = 4096
          · rw [if_pos h2]; exact ⟨fun _ => rfl, by simp⟩
          · rw [if_neg h2]; exact tableM_err names sections n _ _ (by simp; omega)

theorem tableM_ok (table names : List UInt8) (sections : Int) : ((tableM table names sections).2 ≠ 0 → (tableM table names sections).1 = []) ∧ (tableM table names sections).1.length ≤ 4096 := by
  unfold tableM
  split
  · exact ⟨fun _ => rfl, by simp⟩
  · exact tableM_err _ _ _ _ _ (by simp)

set_option maxHeartbeats 1000000 in
set_option maxRecDepth 8000 in
theorem nl_find (w : World) (p q : Option Addr) (n cap k capk : Nat) (table names : List UInt8) (sections : Int) (nl : List UInt8) (ht : BS w (.slice p n cap) table) (hn : BS w (.slice q k capk) names) :
    Calls Tryz.prog 171 #[.slice p n cap, .slice q k capk, .int .i64 sections, .string (mkS nl)] w fun e w' =>
      e = .returned (.tuple #[.agg (findM (tableM table names sections) nl).1.cells.toArray, .bool (findM (tableM table names sections) nl).2.1, .int .i64 (findM (tableM table names sections) nl).2.2]) ∧ Below w.heap.size w w' := by
  obtain ⟨M, hM⟩ : ∃ M, M = tableM table names sections := ⟨_, rfl⟩
  have hok := tableM_ok table names sections
  rw [← hM] at hok ⊢
  have hW0 : ((w.alloc (.cells #[.string (mkS nl)] 9)).alloc (.cells #[.string (mkS []), .int .i64 0, .int .u64 0, .bool false] 62)).heap[w.heap.size]? = some (.cells #[.string (mkS nl)] 9 (0, 0)) := heap_alloc2_old w _ _
  have hW1 : ((w.alloc (.cells #[.string (mkS nl)] 9)).alloc (.cells #[.string (mkS []), .int .i64 0, .int .u64 0, .bool false] 62)).heap[w.heap.size + 1]? = some (.cells #[.string (mkS []), .int .i64 0, .int .u64 0, .bool false] 62 (0, 0)) := heap_alloc2_new w _ _
  have hbel : Below w.heap.size w ((w.alloc (.cells #[.string (mkS nl)] 9)).alloc (.cells #[.string (mkS []), .int .i64 0, .int .u64 0, .bool false] 62)) := ((Below.refl _ _).alloc (Nat.le_refl _) _).alloc (by simp) _
  have hcall := nl_all _ p q n cap k capk table names sections (ht.below hbel) (hn.below hbel)
  rw [← hM] at hcall
  have H := hid (And.intro hW0 (And.intro hW1 (And.intro hbel (And.intro hok hcall))))
  clear hW0 hW1 hbel hcall hok hM ht hn
  have hmf : ∀ (fn : Fn) (first cap : Array Value) (w : World), (Instr.makeFunc fn first cap).run Tryz.prog w = .ok (.func fn first cap) w := fun _ _ _ _ => rfl
  go_enter Tryz.func171, Tryz.ntmps171
  go_wp2_with fail
  refine (H.out.2.2.2.2).mono ?_
  rintro e w1 ⟨v, rfl, hown, hb1⟩
  obtain ⟨L, er⟩ := M
  have hLl : L.length ≤ 4096 := H.out.2.2.2.1.2
  have hss := SS.of_owns hown (by simp only; omega)
  obtain ⟨a1, c1, rfl⟩ := ownsRow_form hown
  have hz1 : w.heap.size + 2 ≤ w1.heap.size := by have := hb1.size; simpa using this
  have h0 := (hb1.block w.heap.size (by simp; omega)).trans H.out.1
  have h1 := (hb1.block (w.heap.size + 1) (by simp)).trans H.out.2.1
  have H1 := hid (And.intro hss (And.intro h0 (And.intro h1 (H.out.2.2.1.trans (hb1.mono (by simp; omega))))))
  clear hown hss h0 h1 hb1
  simp only
  go_wp2_with fail
  refine (index_fn _ _ L w.heap.size nl (by exact H1.out.1) (by exact cell_of_one H1.out.2.1)).mono ?_
  rintro e w2 ⟨rfl, hb2⟩
  have hr2 := (hb2.block (w.heap.size + 1) (by omega)).trans H1.out.2.2.1
  have hss2 := H1.out.1.below hb2
  have hbw2 := H1.out.2.2.2.trans (hb2.mono (by omega))
  have hz2 := hb2.size
  obtain ⟨⟨r0, r1, r2, r3⟩, rf⟩ := cur_cells hr2
  have H2 := hid (And.intro hss2 hbw2)
  clear hb2 hr2 hss2 hbw2
  by_cases he : er = 0
  · subst he
    by_cases hp : posM L nl < L.length
    · rw [idxM_lt hp]
      obtain ⟨s, hs⟩ : ∃ s, L[posM L nl]? = some s := ⟨_, List.getElem?_eq_getElem hp⟩
      have hf : findM (L, 0) nl = (s, true, 0) := by unfold findM; simp only [ne_eq, not_true_eq_false, if_false, hs]
      obtain ⟨g, off, rfl, hcs⟩ := H2.out.1.at (by omega)
      obtain ⟨x0, x1, x2, x3⟩ := hcs _ s hs
      have Hf := hid hf
      clear hs hcs hf
      go_wp2
      refine bodyPost_ret (v := .tuple #[.agg s.cells.toArray, .bool true, .int .i64 0]) (by simp [results, Tryz.results171, go_sem, Sym.cells, r0, r1, r2, r3]) rfl ?_
      rw [Hf.out]
      exact ⟨rfl, by have hb := H2.out.2; go_grown⟩
    · rw [idxM_no hp]
      have hs : L[posM L nl]? = none := List.getElem?_eq_none (by omega)
      have hf : findM (L, 0) nl = (Sym.zero, false, 0) := by unfold findM; simp only [ne_eq, not_true_eq_false, if_false, hs]
      have Hf := hid hf
      clear hs hf
      go_wp2
      refine bodyPost_ret (v := .tuple #[.agg Sym.zero.cells.toArray, .bool false, .int .i64 0]) (by simp [results, Tryz.results171, go_sem, Sym.cells, Sym.zero, mkS, r0, r1, r2, r3]) rfl ?_
      rw [Hf.out]
      exact ⟨rfl, by have hb := H2.out.2; go_grown⟩
  · have hf : findM (L, er) nl = (Sym.zero, false, er) := by unfold findM; rw [if_pos he]
    have Hf := hid hf
    have hne : ((er : Int) != 0) = true := by rw [bne_iff_ne]; omega
    generalize idxM L nl = iv
    clear hf he
    go_wp2
    refine bodyPost_ret (v := .tuple #[.agg Sym.zero.cells.toArray, .bool false, .int .i64 er]) (by simp [results, Tryz.results171, go_sem, Sym.cells, Sym.zero, mkS, r0, r1, r2, r3]) rfl ?_
    rw [Hf.out]
    exact ⟨rfl, by have hb := H2.out.2; go_grown⟩

end Go.Proofs.YthhjdkcnkdffcaaGreat.Nl
