/- The walk of layer 10's reference: one. -/
import Derived.Test.YtdckfcpjdakjaaaRefB
namespace Go.Proofs.Ytdckfcpjdakjaaa
set_option linter.unusedSimpArgs false
set_option linter.unusedVariables false
open Go.RowKit Go.Maps

theorem weak_int (d : Nat) : ((d : Int) / 128 % 2 == 1) = (d / 128 % 2 == 1) := by
  rw [Bool.eq_iff_iff]; simp; omega

/-- What the reference's one answers of an entry that is told. -/
def oneM (E names : List UInt8) (sections : Int) : Nat × Sym := (entryM E names sections).getD (0, Sym.zero)

def OnePost (w : World) (r : Nat × Sym) (e : Ending) (w' : World) : Prop :=
  e = .returned (.tuple #[.agg r.2.cells.toArray, .int .i64 r.1]) ∧ Below w.heap.size w w'

set_option maxHeartbeats 2000000 in
/-- From where the symbol stands without its name. -/
theorem ref_one (w : World) (p q : Option Addr) (cap k capk : Nat) (E names : List UInt8) (sections : Int) (hE : BS w (.slice p 16 cap) E) (hn : BS w (.slice q k capk) names)
    (kd : Nat) (hkd : (E[4]?.getD 0).toNat = kd) (hk : kd = 15 ∨ kd = 3) :
    Calls Try.prog 23 #[.slice p 16 cap, .slice q k capk, .int .i64 sections] w (OnePost w (oneM E names sections)) := by
  have hl := hE.len
  have hcp := hn.cap
  obtain ⟨b, off, rfl, hcell⟩ := hE.at (by omega)
  have hlt : b < w.heap.size := by
    have := hcell 0 _ (List.getElem?_eq_getElem (by omega))
    exact World.block_lt_of_cell? w _ this
  obtain ⟨x4, hx4⟩ : ∃ x, E[4]? = some x := ⟨_, List.getElem?_eq_getElem (by omega)⟩
  obtain ⟨x5, hx5⟩ : ∃ x, E[5]? = some x := ⟨_, List.getElem?_eq_getElem (by omega)⟩
  obtain ⟨sc, hsc⟩ : ∃ sc, sc = (E[5]?.getD 0).toNat := ⟨_, rfl⟩
  obtain ⟨de, hde⟩ : ∃ de, de = leNat ((E.drop 6).take 2) := ⟨_, rfl⟩
  obtain ⟨ad, had⟩ : ∃ ad, ad = leNat ((E.drop 8).take 8) := ⟨_, rfl⟩
  obtain ⟨nm, hnm⟩ : ∃ nm, nm = leNat (E.take 4) := ⟨_, rfl⟩
  have bsc : sc < 256 := by rw [hsc]; exact (E[5]?.getD 0).toNat_lt
  have bnm : nm < 2 ^ 32 := by
    rw [hnm]; refine Nat.lt_of_lt_of_le (leNat_lt _) ?_
    have : (E.take 4).length ≤ 4 := List.length_take_le _ _
    exact Nat.le_trans (Nat.pow_le_pow_right (by omega) this) (by decide)
  have bde : de < 65536 := by
    rw [hde]; refine Nat.lt_of_lt_of_le (leNat_lt _) ?_
    have : ((E.drop 6).take 2).length ≤ 2 := List.length_take_le _ _
    exact Nat.le_trans (Nat.pow_le_pow_right (by omega) this) (by decide)
  have hc4 : w.cell? ⟨b, off + 4, none⟩ = some (.int .u8 kd) := by rw [hcell 4 x4 hx4, ← hkd, hx4]; rfl
  have hc5 : w.cell? ⟨b, off + 5, none⟩ = some (.int .u8 sc) := by rw [hcell 5 x5 hx5, hsc, hx5]; rfl
  have hone : oneM E names sections = (if (toldM kd sc de ad sections).2.2 ≠ 0 then ((toldM kd sc de ad sections).2.2, Sym.zero) else if (textM names nm).2 ≠ 0 then ((textM names nm).2, Sym.zero) else (0, { (toldM kd sc de ad sections).1 with name := (textM names nm).1 })) := by
    unfold oneM entryM
    dsimp only
    rw [hkd, ← hsc, ← hde, ← had, ← hnm]
    have ht : (toldM kd sc de ad sections).2.1 = true := by
      unfold toldM
      rcases hk with rfl | rfl
      · rw [if_pos rfl]; split <;> rfl
      · rfl
    rw [ht]
    simp only [Bool.true_eq_false, if_false]
    split
    · rfl
    · split <;> rfl
  have H := hid (And.intro hE (And.intro hn (And.intro hone (And.intro hde (And.intro had (And.intro hnm bnm))))))
  clear hE hn hone hde had hnm bnm hcell hl hx4 hx5 hkd hsc
  go_enter Try.func23, Try.ntmps23
  go_wp2_with fail
  refine (ref_get _ (some ⟨b, off, none⟩) 16 cap E 8 8 _ _ (by rfl) (by rfl) (by omega) (by exact H.out.1.below ((Below.refl _ _).alloc (Nat.le_refl _) _)) (by omega)).mono ?_
  rintro e w1 ⟨rfl, hb1⟩
  have hbw1 : Below w.heap.size w w1 := ((Below.refl _ _).alloc (Nat.le_refl _) _).trans (hb1.mono (by simp))
  have hr1 : w1.heap[w.heap.size]? = some (.cells #[.string (mkS []), .int .i64 0, .int .u64 0, .bool false] 30) := (hb1.block _ (by simp)).trans (heap_alloc_new w _)
  have hs1 : w.heap.size + 1 ≤ w1.heap.size := by have := hb1.size; simpa using this
  rw [← H.out.2.2.2.2.1]
  have H1 := hid (And.intro hbw1 hr1)
  clear hb1 hbw1 hr1
  go_wp2_with fail
  refine (ref_get _ (some ⟨b, off, none⟩) 16 cap E 6 2 _ _ (by rfl) (by rfl) (by omega) (by exact H.out.1.below H1.out.1) (by omega)).mono ?_
  rintro e w2 ⟨rfl, hb2⟩
  have hbw2 : Below w.heap.size w w2 := H1.out.1.trans (hb2.mono H1.out.1.size)
  have hr2 := (hb2.block _ (by omega)).trans H1.out.2
  have hs2 := hb2.size
  rw [← H.out.2.2.2.1]
  obtain ⟨⟨r0, r1, r2, r3⟩, rf⟩ := cur_cells hr2
  have hc4 := (hbw2.cell (p := ⟨b, off + 4, none⟩) hlt).trans hc4
  have hc5 := (hbw2.cell (p := ⟨b, off + 5, none⟩) hlt).trans hc5
  have hwk := weak_int de
  have hblt : b < w2.heap.size := by omega
  have hrlt : w.heap.size < w2.heap.size := by omega
  have H2 := hid (And.intro hbw2 hr2)
  clear hb2 hbw2 hr2
  rcases hk with rfl | rfl
  · by_cases h1 : sc < 1
    · have hm : toldM 15 sc de ad sections = (Sym.zero, true, 13) := by unfold toldM; rw [if_pos rfl, if_pos (by omega)]
      have Hm := hid hm
      clear hm
      go_wp2
      refine bodyPost_ret (v := .tuple #[.agg Sym.zero.cells.toArray, .int .i64 13]) (by simp [results, Try.results23, go_sem, Sym.cells, Sym.zero, mkS, r0, r1, r2, r3, World.cell?_alloc_lt, hrlt]) rfl ?_
      rw [H.out.2.2.1, Hm.out]
      exact ⟨rfl, by have hb := H2.out.1; go_grown⟩
    · by_cases h2 : sections < (sc : Int)
      · have hm : toldM 15 sc de ad sections = (Sym.zero, true, 13) := by unfold toldM; rw [if_pos rfl, if_pos (by omega)]
        have Hm := hid hm
        clear hm
        go_wp2
        refine bodyPost_ret (v := .tuple #[.agg Sym.zero.cells.toArray, .int .i64 13]) (by simp [results, Try.results23, go_sem, Sym.cells, Sym.zero, mkS, r0, r1, r2, r3, World.cell?_alloc_lt, hrlt]) rfl ?_
        rw [H.out.2.2.1, Hm.out]
        exact ⟨rfl, by have hb := H2.out.1; go_grown⟩
      · have hm : toldM 15 sc de ad sections = (⟨[], sc, ad, de / 128 % 2 == 1⟩, true, 0) := by unfold toldM; rw [if_pos rfl, if_neg (by omega)]
        have Hm := hid hm
        clear hm
        go_wp2_with fail
        refine (ref_get _ (some ⟨b, off, none⟩) 16 cap E 0 4 _ _ (by rfl) (by rfl) (by omega) (by exact H.out.1.below (H2.out.1.alloc (by omega) _)) (by omega)).mono ?_
        rintro e w3 ⟨rfl, hb3⟩
        have hbw3 : Below w.heap.size w w3 := (H2.out.1.alloc (by omega) _).trans (hb3.mono (by simp; omega))
        have hr3 := (hb3.block w.heap.size (by simp; omega)).trans ((Below.heap_alloc w2 _ _ (by omega)).trans H2.out.2)
        have hs3 := (hb3.block w2.heap.size (by simp)).trans (heap_alloc_new w2 _)
        have hz3 : w2.heap.size + 1 ≤ w3.heap.size := by have := hb3.size; simpa using this
        clear r0 r1 r2 r3 rf
        obtain ⟨⟨r0, r1, r2, r3⟩, rf⟩ := cur_cells hr3
        obtain ⟨⟨s0, s1, s2, s3⟩, sf⟩ := cur_cells hs3
        rw [show leNat (List.take 4 (List.drop 0 E)) = nm from H.out.2.2.2.2.2.1.symm]
        have bnm := H.out.2.2.2.2.2.2
        have H3 := hid hbw3
        clear hb3 hbw3 hr3 hs3 hc4 hc5
        by_cases hk1 : k ≤ nm
        · have ht : (textM names nm) = ([], 13) := by unfold textM; rw [if_pos (by rw [H.out.2.1.len]; exact hk1)]
          have Ht := hid ht
          clear ht
          have hw : IntKind.u64.wrap (k : Int) = k := IntWalk.u64_in _ (by omega)
          go_wp2
          refine bodyPost_ret (v := .tuple #[.agg Sym.zero.cells.toArray, .int .i64 13]) (by simp [results, Try.results23, go_sem, Sym.cells, Sym.zero, mkS, r0, r1, r2, r3, World.cell?_alloc_lt, hrlt]) rfl ?_
          rw [H.out.2.2.1, Hm.out, Ht.out]
          exact ⟨rfl, by have hb := H3.out; go_grown⟩
        · have hw : IntKind.u64.wrap (k : Int) = k := IntWalk.u64_in _ (by omega)
          have hsl := fun (w : World) => run_subl (P := Try.prog) (w := w) (t := 23) q k capk un_bs (sz_u8 w) .u64 nm (by omega) (by omega)
          simp only [Int.toNat_natCast] at hsl
          have hbn : BS w3 (.slice (subA q nm capk) (k - nm) (capk - nm)) (names.drop nm) := (drop_bs H.out.2.1 (lo := nm) (by omega)).below H3.out
          obtain ⟨L, hL⟩ : ∃ L, L = names.drop nm := ⟨_, rfl⟩
          rw [← hL] at hbn
          have hLl := hbn.len
          have hnl := nul_le L
          have ht : textM names nm = if L.length ≤ nul L ∨ nul L = 0 then ([], 13) else if 255 < nul L then ([], 10) else (L.take (nul L), 0) := by unfold textM; rw [if_neg (by rw [H.out.2.1.len]; exact hk1), ← hL]
          have hNl : (L.take (nul L)).length = nul L := by rw [List.length_take]; omega
          obtain ⟨NL, hNL⟩ : ∃ NL, NL = L.take (nul L) := ⟨_, rfl⟩
          rw [← hNL] at hNl ht
          have hnb : nul L ≤ 140737488355328 := by omega
          have H4 := hid (And.intro ht (And.intro hbn (And.intro hLl (And.intro hNl hNL))))
          clear ht hbn hLl hNl
          go_wp2_with fail
          refine (ref_name _ _ _ _ L (by exact H4.out.2.1)).mono ?_
          rintro e w4 ⟨rfl, rfl⟩
          rw [← hNL]
          clear hNL hL hsl
          have hcast : (nm : Int) + (nul L : Int) ≤ 9223372036854775807 := by omega
          by_cases hz : nul L = 0
          · have hemp : NL = [] := List.eq_nil_of_length_eq_zero (by rw [H4.out.2.2.2.1]; exact hz)
            subst hemp
            have ht : textM names nm = ([], 13) := by rw [H4.out.1, if_pos (Or.inr hz)]
            have Ht := hid ht
            clear ht hz hcast
            go_wp2
            refine bodyPost_ret (v := .tuple #[.agg Sym.zero.cells.toArray, .int .i64 13]) (by simp [results, Try.results23, go_sem, Sym.cells, Sym.zero, mkS, r0, r1, r2, r3, World.cell?_alloc_lt, hrlt]) rfl ?_
            rw [H.out.2.2.1, Hm.out, Ht.out]
            exact ⟨rfl, by have hb := H3.out; go_grown⟩
          · have hne : (NL.isEmpty) = false := by
              cases NL with
              | nil => exact absurd (by simpa using H4.out.2.2.2.1.symm) hz
              | cons => rfl
            have hne2 : (NL == []) = false := by cases NL <;> simp_all
            have hlen : NL.length = nul L := H4.out.2.2.2.1
            have hwn : IntKind.i64.wrap (nm : Int) = nm := IntWalk.i64_in _ (by omega)
            by_cases hend : L.length ≤ nul L
            · have hsum : ((nm : Int) + (nul L : Int) == (k : Int)) = true := by rw [beq_iff_eq]; have := H4.out.2.2.1; omega
              have ht : textM names nm = ([], 13) := by rw [H4.out.1, if_pos (Or.inl hend)]
              have Ht := hid ht
              clear ht hend hz
              go_wp2
              refine bodyPost_ret (v := .tuple #[.agg Sym.zero.cells.toArray, .int .i64 13]) (by simp [results, Try.results23, go_sem, Sym.cells, Sym.zero, mkS, r0, r1, r2, r3, World.cell?_alloc_lt, hrlt]) rfl ?_
              rw [H.out.2.2.1, Hm.out, Ht.out]
              exact ⟨rfl, by have hb := H3.out; go_grown⟩
            · have hsum : ((nm : Int) + (nul L : Int) == (k : Int)) = false := by rw [beq_eq_false_iff_ne]; have := H4.out.2.2.1; omega
              by_cases hbig : 255 < nul L
              · have ht : textM names nm = ([], 10) := by rw [H4.out.1, if_neg (by omega), if_pos hbig]
                have Ht := hid ht
                clear ht hz
                go_wp2
                refine bodyPost_ret (v := .tuple #[.agg Sym.zero.cells.toArray, .int .i64 10]) (by simp [results, Try.results23, go_sem, Sym.cells, Sym.zero, mkS, r0, r1, r2, r3, World.cell?_alloc_lt, hrlt]) rfl ?_
                rw [H.out.2.2.1, Hm.out, Ht.out]
                exact ⟨rfl, by have hb := H3.out; go_grown⟩
              · have ht : textM names nm = (NL, 0) := by rw [H4.out.1, if_neg (by omega), if_neg hbig]
                have Ht := hid ht
                clear ht hz
                go_wp2
                refine bodyPost_ret (v := .tuple #[.agg (Sym.mk NL sc ad (de / 128 % 2 == 1)).cells.toArray, .int .i64 0]) (by simp [results, Try.results23, go_sem, Sym.cells, r0, r1, r2, r3, World.cell?_alloc_lt, hrlt]) rfl ?_
                rw [H.out.2.2.1, Hm.out, Ht.out]
                exact ⟨rfl, by have hb := H3.out; go_grown⟩
  · have hm : toldM 3 sc de ad sections = (⟨[], 0, ad, de / 128 % 2 == 1⟩, true, 0) := rfl
    have Hm := hid hm
    clear hm
    go_wp2_with fail
    refine (ref_get _ (some ⟨b, off, none⟩) 16 cap E 0 4 _ _ (by rfl) (by rfl) (by omega) (by exact H.out.1.below (H2.out.1.alloc (by omega) _)) (by omega)).mono ?_
    rintro e w3 ⟨rfl, hb3⟩
    have hbw3 : Below w.heap.size w w3 := (H2.out.1.alloc (by omega) _).trans (hb3.mono (by simp; omega))
    have hr3 := (hb3.block w.heap.size (by simp; omega)).trans ((Below.heap_alloc w2 _ _ (by omega)).trans H2.out.2)
    have hs3 := (hb3.block w2.heap.size (by simp)).trans (heap_alloc_new w2 _)
    have hz3 : w2.heap.size + 1 ≤ w3.heap.size := by have := hb3.size; simpa using this
    clear r0 r1 r2 r3 rf
    obtain ⟨⟨r0, r1, r2, r3⟩, rf⟩ := cur_cells hr3
    obtain ⟨⟨s0, s1, s2, s3⟩, sf⟩ := cur_cells hs3
    rw [show leNat (List.take 4 (List.drop 0 E)) = nm from H.out.2.2.2.2.2.1.symm]
    have bnm := H.out.2.2.2.2.2.2
    have H3 := hid hbw3
    clear hb3 hbw3 hr3 hs3 hc4 hc5
    by_cases hk1 : k ≤ nm
    · have ht : (textM names nm) = ([], 13) := by unfold textM; rw [if_pos (by rw [H.out.2.1.len]; exact hk1)]
      have Ht := hid ht
      clear ht
      have hw : IntKind.u64.wrap (k : Int) = k := IntWalk.u64_in _ (by omega)
      go_wp2
      refine bodyPost_ret (v := .tuple #[.agg Sym.zero.cells.toArray, .int .i64 13]) (by simp [results, Try.results23, go_sem, Sym.cells, Sym.zero, mkS, r0, r1, r2, r3, World.cell?_alloc_lt, hrlt]) rfl ?_
      rw [H.out.2.2.1, Hm.out, Ht.out]
      exact ⟨rfl, by have hb := H3.out; go_grown⟩
    · have hw : IntKind.u64.wrap (k : Int) = k := IntWalk.u64_in _ (by omega)
      have hsl := fun (w : World) => run_subl (P := Try.prog) (w := w) (t := 23) q k capk un_bs (sz_u8 w) .u64 nm (by omega) (by omega)
      simp only [Int.toNat_natCast] at hsl
      have hbn : BS w3 (.slice (subA q nm capk) (k - nm) (capk - nm)) (names.drop nm) := (drop_bs H.out.2.1 (lo := nm) (by omega)).below H3.out
      obtain ⟨L, hL⟩ : ∃ L, L = names.drop nm := ⟨_, rfl⟩
      rw [← hL] at hbn
      have hLl := hbn.len
      have hnl := nul_le L
      have ht : textM names nm = if L.length ≤ nul L ∨ nul L = 0 then ([], 13) else if 255 < nul L then ([], 10) else (L.take (nul L), 0) := by unfold textM; rw [if_neg (by rw [H.out.2.1.len]; exact hk1), ← hL]
      have hNl : (L.take (nul L)).length = nul L := by rw [List.length_take]; omega
      obtain ⟨NL, hNL⟩ : ∃ NL, NL = L.take (nul L) := ⟨_, rfl⟩
      rw [← hNL] at hNl ht
      have hnb : nul L ≤ 140737488355328 := by omega
      have H4 := hid (And.intro ht (And.intro hbn (And.intro hLl (And.intro hNl hNL))))
      clear ht hbn hLl hNl
      go_wp2_with fail
      refine (ref_name _ _ _ _ L (by exact H4.out.2.1)).mono ?_
      rintro e w4 ⟨rfl, rfl⟩
      rw [← hNL]
      clear hNL hL hsl
      have hcast : (nm : Int) + (nul L : Int) ≤ 9223372036854775807 := by omega
      by_cases hz : nul L = 0
      · have hemp : NL = [] := List.eq_nil_of_length_eq_zero (by rw [H4.out.2.2.2.1]; exact hz)
        subst hemp
        have ht : textM names nm = ([], 13) := by rw [H4.out.1, if_pos (Or.inr hz)]
        have Ht := hid ht
        clear ht hz hcast
        go_wp2
        refine bodyPost_ret (v := .tuple #[.agg Sym.zero.cells.toArray, .int .i64 13]) (by simp [results, Try.results23, go_sem, Sym.cells, Sym.zero, mkS, r0, r1, r2, r3, World.cell?_alloc_lt, hrlt]) rfl ?_
        rw [H.out.2.2.1, Hm.out, Ht.out]
        exact ⟨rfl, by have hb := H3.out; go_grown⟩
      · have hne : (NL.isEmpty) = false := by
          cases NL with
          | nil => exact absurd (by simpa using H4.out.2.2.2.1.symm) hz
          | cons => rfl
        have hne2 : (NL == []) = false := by cases NL <;> simp_all
        have hlen : NL.length = nul L := H4.out.2.2.2.1
        have hwn : IntKind.i64.wrap (nm : Int) = nm := IntWalk.i64_in _ (by omega)
        by_cases hend : L.length ≤ nul L
        · have hsum : ((nm : Int) + (nul L : Int) == (k : Int)) = true := by rw [beq_iff_eq]; have := H4.out.2.2.1; omega
          have ht : textM names nm = ([], 13) := by rw [H4.out.1, if_pos (Or.inl hend)]
          have Ht := hid ht
          clear ht hend hz
          go_wp2
          refine bodyPost_ret (v := .tuple #[.agg Sym.zero.cells.toArray, .int .i64 13]) (by simp [results, Try.results23, go_sem, Sym.cells, Sym.zero, mkS, r0, r1, r2, r3, World.cell?_alloc_lt, hrlt]) rfl ?_
          rw [H.out.2.2.1, Hm.out, Ht.out]
          exact ⟨rfl, by have hb := H3.out; go_grown⟩
        · have hsum : ((nm : Int) + (nul L : Int) == (k : Int)) = false := by rw [beq_eq_false_iff_ne]; have := H4.out.2.2.1; omega
          by_cases hbig : 255 < nul L
          · have ht : textM names nm = ([], 10) := by rw [H4.out.1, if_neg (by omega), if_pos hbig]
            have Ht := hid ht
            clear ht hz
            go_wp2
            refine bodyPost_ret (v := .tuple #[.agg Sym.zero.cells.toArray, .int .i64 10]) (by simp [results, Try.results23, go_sem, Sym.cells, Sym.zero, mkS, r0, r1, r2, r3, World.cell?_alloc_lt, hrlt]) rfl ?_
            rw [H.out.2.2.1, Hm.out, Ht.out]
            exact ⟨rfl, by have hb := H3.out; go_grown⟩
          · have ht : textM names nm = (NL, 0) := by rw [H4.out.1, if_neg (by omega), if_neg hbig]
            have Ht := hid ht
            clear ht hz
            go_wp2
            refine bodyPost_ret (v := .tuple #[.agg (Sym.mk NL 0 ad (de / 128 % 2 == 1)).cells.toArray, .int .i64 0]) (by simp [results, Try.results23, go_sem, Sym.cells, r0, r1, r2, r3, World.cell?_alloc_lt, hrlt]) rfl ?_
            rw [H.out.2.2.1, Hm.out, Ht.out]
            exact ⟨rfl, by have hb := H3.out; go_grown⟩

end Go.Proofs.Ytdckfcpjdakjaaa
