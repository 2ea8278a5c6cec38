/- The reference's Make: the walk. -/
import Derived.Test.YthhjdkcnkdffcaaGreatZMkT
import Derived.Test.YthhjdkcnkdffcaaGreatZMkV
import Derived.Test.YthhjdkcnkdffcaaGreatZMkH
import Derived.Test.YthhjdkcnkdffcaaGreatZTMayR
import Derived.Laws.MakeOwn
namespace Go.Proofs.YthhjdkcnkdffcaaGreat
set_option linter.unusedSimpArgs false
set_option linter.unusedVariables false
open Go.RowKit
theorem made_rep (v : Value) (n : Nat) : madeCells #[v] n = (List.replicate n v).toArray := by
  apply Array.ext
  · simp [madeCells]
  · intro i h1 h2
    simp [madeCells, Nat.mod_one]
theorem un_intsX : Tryz.prog.underlying 66 = some (.slice 3) := by kernel_rfl
theorem un_rows : Tryz.prog.underlying 65 = some (.slice 66) := by kernel_rfl
theorem infoIntX : (Tryz.prog.info? 3).map (fun i => (i.zero, i.size, i.bytes)) = some (some (.int .i64 0), 1, 8) := by kernel_rfl
theorem infoRow : (Tryz.prog.info? 66).map (fun i => (i.zero, i.size, i.bytes)) = some (some (.slice none 0 0), 1, 24) := by kernel_rfl
theorem make_ints (w : World) (n : Nat) (hn : n ≤ 100000) : (Instr.makeSlice 66 (.int .i64 (n : Int)) (.int .i64 (n : Int))).run Tryz.prog w = .ok (.slice (some ⟨w.heap.size, 0, none⟩) n n) (w.alloc (.cells (natsV (List.replicate n 0)).toArray 3)) := by
  obtain ⟨i0, hi, hz0, hz1, hz2⟩ := info_parts infoIntX
  have := run_makeSlice (P := Tryz.prog) (w := w) 66 3 i0 (.int .i64 0) un_intsX hi hz0 .i64 .i64 n n (by omega) (by omega) (by rw [hz1]; simp; omega) (by rw [hz2]; simp; omega) (by omega)
  rw [hz1] at this
  have e : natsV (List.replicate n 0) = List.replicate n (.int .i64 0) := by simp [natsV]
  rw [e, ← made_rep]
  simp only [Int.toNat_natCast, Nat.mul_one] at this
  exact this
theorem make_rows (w : World) (n : Nat) (hn : n ≤ 100000) : (Instr.makeSlice 65 (.int .i64 (n : Int)) (.int .i64 (n : Int))).run Tryz.prog w = .ok (.slice (some ⟨w.heap.size, 0, none⟩) n n) (w.alloc (.cells (List.replicate n (.slice none 0 0)).toArray 66)) := by
  obtain ⟨i0, hi, hz0, hz1, hz2⟩ := info_parts infoRow
  have := run_makeSlice (P := Tryz.prog) (w := w) 65 66 i0 (.slice none 0 0) un_rows hi hz0 .i64 .i64 n n (by omega) (by omega) (by rw [hz1]; simp; omega) (by rw [hz2]; simp; omega) (by omega)
  rw [hz1] at this
  rw [← made_rep]
  simp only [Int.toNat_natCast, Nat.mul_one] at this
  exact this
theorem owns_fresh (w : World) (t : TypeId) (n : Nat) (l : List Value) (hl : l.length = n) (hn : n ≤ 100000) : (w.alloc (.cells l.toArray t)).ownsRow w.heap.size t 1 (.slice (some ⟨w.heap.size, 0, none⟩) n n) n l := by
  subst hl
  exact ⟨by simp, .inr ⟨w.heap.size, l.length, l.toArray, rfl, Nat.le_refl _, heap_alloc_new w _, Nat.le_refl _, Nat.le_trans hn (by decide), by simp, by simp⟩⟩
theorem mkS_dropX (r : List UInt8) (k : Nat) : (mkS r).extract k r.length = mkS (r.drop k) := by
  apply ByteArray.ext
  rw [ByteArray.data_extract]
  simp [mkS, List.extract_eq_take_drop]
  exact List.take_of_length_le (by simp)
/-- The first j exports may be. -/
def MayTo (l : List Exp) (j : Nat) : Prop := ∀ i x, i < j → l[i]? = some x → mayE x = true
/-- So far the children. -/
def HangR (w2 : World) (B z : Nat) (Nf : Nat → List UInt8) (v8 v9 : Value) (wx : World) : Prop :=
  ∃ (i : Nat) (LL : List (Value × List Nat)), i ≤ z ∧ v9 = .int .i64 (i : Int) ∧ Kd w2 wx B (.slice (some ⟨B, 0, none⟩) z z) v8 LL (stK Nf i).1 ∧ KfIs LL z (stK Nf i).2
/-- So far those that are closed. -/
def PopR (w2 : World) (B z : Nat) (Nf : Nat → List UInt8) (k : Nat) (LL : List (Value × List Nat)) (S : List Nat) (v8 : Value) (wx : World) : Prop :=
  ∃ (st : List Nat) (a : Option Addr) (c : Nat), v8 = .slice a st.length c ∧ popK Nf k st = popK Nf k S ∧ (∀ u ∈ st, u < k) ∧ st.length ≤ k ∧ Kd w2 wx B (.slice (some ⟨B, 0, none⟩) z z) v8 LL st
/-- What is read while one is tried. -/
structure Op3 (W : World) (g8 m u g6 k : Nat) (a b : List UInt8) : Prop where
  c1 : W.cell? ⟨g8, m, none⟩ = some (.int .i64 (u : Int))
  c2 : W.cell? ⟨g6, u, none⟩ = some (.string (mkS a))
  c3 : W.cell? ⟨g6, k, none⟩ = some (.string (mkS b))
theorem Op3.next {W W' : World} {g8 m u g6 k : Nat} {a b : List UInt8} (h : Op3 W g8 m u g6 k a b) (hb : Below W.heap.size W W') : Op3 W' g8 m u g6 k a b :=
  ⟨(hb.cell (p := ⟨g8, m, none⟩) (World.block_lt_of_cell? W _ h.c1)).trans h.c1, (hb.cell (p := ⟨g6, u, none⟩) (World.block_lt_of_cell? W _ h.c2)).trans h.c2, (hb.cell (p := ⟨g6, k, none⟩) (World.block_lt_of_cell? W _ h.c3)).trans h.c3⟩
set_option maxHeartbeats 8000000 in
set_option maxRecDepth 100000 in
theorem rmake_any (w : World) (p : Option Addr) (cap : Nat) (l : List Exp) (F : Fo) (P0 : List Nat) (h : ES w (.slice p l.length cap) l) (hx : ∀ x ∈ l, x.value < 2 ^ 64 ∧ x.resolver < 2 ^ 64 ∧ x.ordinal < 2 ^ 64)
    (hF : l.all mayE = true → apartB l = true → Tied [] (byNames l) F ∧ Fix (allK F) P0) :
    Calls Tryz.prog 8 #[.slice p l.length cap] w (MakeEnd w (makeM l (allK F) P0)) := by
  have hs : True := trivial
  have hlen := h.len
  obtain ⟨n, hn⟩ : ∃ n, n = l.length := ⟨_, rfl⟩
  rw [← hn] at h hlen ⊢
  obtain ⟨R, hR⟩ : ∃ R, R = makeM l (allK F) P0 := ⟨_, rfl⟩
  rw [← hR]
  have H := hid (And.intro h (And.intro hn (And.intro hx (And.intro hs (And.intro hF hR)))))
  clear h hn hx hs hF hR
  go_enter Tryz.func8, Tryz.ntmps8
  go_wp2_with fail
  go_loopw [4] (fun t wr => ∃ j : Nat, j ≤ n ∧ t = .int .i64 (j : Int) ∧ MayTo l j ∧ Below w.heap.size w wr) (fun t _ => n - (intOf t).toNat)
  case atStart => exact ⟨0, Nat.zero_le _, rfl, fun i x hi => by omega, Below.refl _ _⟩
  case round =>
    obtain ⟨j, hj, rfl, hdf, hbr⟩ := hrel
    have hes := H.out.1.below hbr
    have HR := hid (And.intro hdf (And.intro hbr hes))
    clear hdf hbr
    by_cases hjn : j < n
    · obtain ⟨y, hy⟩ : ∃ y, l[j]? = some y := ⟨_, List.getElem?_eq_getElem (by have := H.out.2.1; omega)⟩
      obtain ⟨gy, oy, rfl, y0, y1, y2, y3, y4, y5, y6⟩ := hes.at hy
      have hC := ref_may wr y
      have hC' : Calls Tryz.prog 20 #[.agg #[.string (mkS y.name), .int .i64 y.kind, .bool y.weak, .int .u64 (y.value : Int), .int .u64 (y.resolver : Int), .int .u64 (y.ordinal : Int), .string (mkS y.other)]] wr fun e w' => e = .returned (.bool (mayE y)) ∧ Below wr.heap.size wr w' := hC
      obtain ⟨mb, hmb⟩ : ∃ b, b = mayE y := ⟨_, rfl⟩
      rw [← hmb] at hC'
      have Hy := hid (And.intro hy (And.intro hC' hmb))
      have q1 : (j : Int) < (n : Int) := by omega
      clear hy hC hC' hmb hes
      cases mb with
      | false =>
        go_wp2_with fail
        refine (Hy.out.2.1).mono ?_
        rintro e w1 ⟨rfl, hb1⟩
        have H1 := hid hb1
        clear hb1
        go_wp2_with fail
        refine bodyPost_ret (v := .tuple #[.slice none 0 0, .int .i64 2]) (by simp [results, Tryz.results8, go_sem]) rfl ?_
        refine makeEnd_none ?_ (HR.out.2.1.trans (H1.out.mono HR.out.2.1.size))
        rw [H.out.2.2.2.2.2]
        unfold makeM
        rw [if_pos (List.all_eq_false.2 ⟨y, List.mem_of_getElem? Hy.out.1, by rw [← Hy.out.2.2]; simp⟩)]
      | true =>
        go_wp2_with fail
        refine (Hy.out.2.1).mono ?_
        rintro e w1 ⟨rfl, hb1⟩
        have H1 := hid hb1
        clear hb1
        go_wp2_with fail
        go_roundw
        case rel =>
          refine ⟨j + 1, by omega, by go_num, fun i x hi hx => ?_, HR.out.2.1.trans (H1.out.mono HR.out.2.1.size)⟩
          by_cases hij : i = j
          · subst hij
            rw [Hy.out.1] at hx
            cases hx
            exact Hy.out.2.2.symm
          · exact HR.out.1 i x (by omega) hx
        case measure => simp [intOf]; omega
    · obtain rfl : j = n := by omega
      have h1 : l.all mayE = true := by
        rw [List.all_eq_true]
        intro x hx
        obtain ⟨i, hi⟩ := List.mem_iff_getElem?.1 hx
        exact HR.out.1 i x (by have := (List.getElem?_eq_some_iff.1 hi).1; have := H.out.2.1; omega) hi
      by_cases h2 : 4096 < j
      · have hr : R = ([], 11) := by rw [H.out.2.2.2.2.2]; unfold makeM; rw [if_neg (by rw [h1]; simp), if_pos (by have := H.out.2.1; omega)]
        have hd : decide ((4096 : Int) < (j : Int)) = true := by rw [decide_eq_true_eq]; omega
        have Hr := hid hr
        clear hr h1 h2 hes
        go_wp2_with fail
        refine bodyPost_ret (v := .tuple #[.slice none 0 0, .int .i64 11]) (by simp [results, Tryz.results8, go_sem]) rfl ?_
        exact makeEnd_none Hr.out HR.out.2.1
      have hd2 : decide ((4096 : Int) < (j : Int)) = false := by rw [decide_eq_false_iff_not]; omega
      by_cases h3 : j = 0
      · have hr : R = ([], 0) := by rw [H.out.2.2.2.2.2]; unfold makeM; rw [if_neg (by rw [h1]; simp), if_neg (by have := H.out.2.1; omega), if_pos (by have := H.out.2.1; omega)]
        have Hr := hid hr
        have hd : ((j : Int) == 0) = true := by rw [beq_iff_eq]; omega
        clear hr h1 h2 hes h3
        go_wp2_with fail
        refine bodyPost_ret (v := .tuple #[.slice none 0 0, .int .i64 0]) (by simp [results, Tryz.results8, go_sem]) rfl ?_
        exact makeEnd_none Hr.out HR.out.2.1
      have hd3 : ((j : Int) == 0) = false := by rw [beq_eq_false_iff_ne]; omega
      have hmake : R = if apartB l = false then ([], 21) else if 1048576 < (outB (allK F) P0).length then ([], 11) else (outB (allK F) P0, 0) := by
        rw [H.out.2.2.2.2.2]; unfold makeM; rw [if_neg (by rw [h1]; simp), if_neg (by have := H.out.2.1; omega), if_neg (by have := H.out.2.1; omega)]
      have hgood : ∀ x ∈ l, GoodX x := fun x hx => good_of (List.all_eq_true.1 h1 x hx) (H.out.2.2.1 x hx).1 (H.out.2.2.1 x hx).2.1 (H.out.2.2.1 x hx).2.2
      have hT := H.out.2.2.2.2.1 h1
      have hC := ref_sorted 20000 wr (.slice p j cap) l hes (by have := H.out.2.1; omega) (by have := H.out.2.1; omega)
      have hsp := sortedR_perm 20000 l
      have hss := sortedR_sorted 20000 l (by have := H.out.2.1; omega)
      obtain ⟨s, hse⟩ : ∃ s, s = sortedR 20000 l := ⟨_, rfl⟩
      rw [← hse] at hC hsp hss
      have hsl : s.length = j := by rw [hsp.length_eq]; exact H.out.2.1.symm
      have HG := hid (And.intro hmake (And.intro hgood (And.intro hT (And.intro hC (And.intro hsp (And.intro hss hsl))))))
      clear hmake hgood hT hC hsp hss hsl hes h1 hse
      obtain ⟨w0, hw0⟩ : ∃ w0, w0 = wr := ⟨_, rfl⟩
      subst hw0
      have hj0 : 0 < j := by omega
      have hj1 : j ≤ 4096 := by omega
      clear h2 h3 hjn
      go_wp2_with fail
      refine (HG.out.2.2.2.1).mono ?_
      rintro e w1 ⟨v1, rfl, ho1, hb1⟩
      obtain ⟨g1, c1, hv1⟩ : ∃ g c, v1 = .slice (some ⟨g, 0, none⟩) j c := by
        rw [← HG.out.2.2.2.2.2.2]
        obtain ⟨g, c, hv, -⟩ := owns_cell ho1 (by have := HG.out.2.2.2.2.2.2; omega)
        exact ⟨g, c, hv⟩
      subst hv1
      have hes1 := ES.of_owns ho1 (by have := HG.out.2.2.2.2.2.2; omega)
      have H1 := hid (And.intro ho1 (And.intro hb1 hes1))
      clear ho1 hb1 hes1
      go_wp2_with fail
      go_loopw [5] (fun t wr => ∃ i : Nat, 1 ≤ i ∧ i ≤ j ∧ t = .int .i64 (i : Int) ∧ DiffTo s i ∧ ∃ q, wr = w1.drewN q) (fun t _ => j - (intOf t).toNat)
      case atStart => exact ⟨1, Nat.le_refl _, hj0, rfl, fun i x y hi => by omega, 0, rfl⟩
      case round =>
        obtain ⟨i, hi1, hij, rfl, hdf, q, rfl⟩ := hrel
        have Hd := hid hdf
        clear hdf
        by_cases hin : i < j
        · obtain ⟨m, rfl⟩ : ∃ m, i = m + 1 := ⟨i - 1, by omega⟩
          obtain ⟨x, hx⟩ : ∃ x, s[m]? = some x := ⟨_, List.getElem?_eq_getElem (by have := HG.out.2.2.2.2.2.2; omega)⟩
          obtain ⟨y, hy⟩ : ∃ y, s[m + 1]? = some y := ⟨_, List.getElem?_eq_getElem (by have := HG.out.2.2.2.2.2.2; omega)⟩
          obtain ⟨gx, ox, hgx, x0, -⟩ := H1.out.2.2.at hx
          cases hgx
          obtain ⟨gy, oy, hgy, y0, -⟩ := H1.out.2.2.at hy
          cases hgy
          rw [Nat.zero_add] at x0 y0
          have q5 : IntKind.i64.wrap ((m : Int) + 1 - 1) = (m : Int) := (IntWalk.i64_in _ (by omega)).trans (by omega)
          have q6 : IntKind.i64.wrap (m : Int) = (m : Int) := IntWalk.i64_in _ (by omega)
          have q8 : (m : Int) + 1 - 1 = (m : Int) := by omega
          have q9 : (m : Int) < (j : Int) := by omega
          have q10 : (m : Int) + 1 < (j : Int) := by omega
          obtain ⟨eq, heq⟩ : ∃ b, b = (y.name == x.name) := ⟨_, rfl⟩
          have heq' := heq.symm
          have Hx := hid (And.intro hx (And.intro hy heq))
          clear hx hy heq
          cases eq with
          | true =>
            go_wp2_with fail
            go_quiet (fail)
            go_wp2_with fail
            refine bodyPost_ret (v := .tuple #[.slice none 0 0, .int .i64 21]) (by simp [results, Tryz.results8, go_sem]) rfl ?_
            have hr := HG.out.1
            rw [if_pos (apart_not HG.out.2.2.2.2.1 Hx.out.1 Hx.out.2.1 (by have := Hx.out.2.2; have h2 : y.name = x.name := by simpa using this.symm
                                                                           exact h2.symm))] at hr
            exact makeEnd_none hr ((HR.out.2.1.trans (H1.out.2.1.mono HR.out.2.1.size)).trans ((below_drewNX (below_drewNX (Below.refl _ _) _) _).mono (Nat.le_trans HR.out.2.1.size H1.out.2.1.size)))
          | false =>
            go_wp2_with fail
            go_quiet (fail)
            go_wp2_with fail
            go_roundw
            case rel =>
              refine ⟨m + 1 + 1, by omega, by omega, by go_num, fun i a b hi ha hb => ?_, _, rfl⟩
              by_cases him : i = m
              · subst him
                rw [Hx.out.1] at ha
                rw [Hx.out.2.1] at hb
                cases ha; cases hb
                have := Hx.out.2.2
                intro e
                rw [e] at this
                simp at this
              · exact Hd.out i a b (by omega) ha hb
            case measure => simp [intOf]; omega
        · obtain rfl : i = j := by omega
          obtain ⟨hap, hsb⟩ := apart_yes HG.out.2.2.2.2.1 HG.out.2.2.2.2.2.1 (fun a x y hx hy => Hd.out a x y (by have := (List.getElem?_eq_some_iff.1 hy).1; have := HG.out.2.2.2.2.2.2; omega) hx hy)
          obtain ⟨hT, hfix⟩ := HG.out.2.2.1 hap
          rw [← hsb] at hT
          have hgs : ∀ y ∈ s, GoodX y := fun y hy => HG.out.2.1 y (HG.out.2.2.2.2.1.mem_iff.1 hy)
          have hsl := HG.out.2.2.2.2.2.2
          have hcap := cap_all hT hgs (by omega)
          have hmany := hT.many
          have hr := HG.out.1
          rw [hap, if_neg (by simp)] at hr
          have hRK := refK_of hT hgs
          have hin := allK_in hT (fun y hy => (hgs y hy).name3)
          have hes2 : ES (w1.drewN q) (.slice (some ⟨g1, 0, none⟩) i c1) s := H1.out.2.2.below (below_drewNX (Below.refl _ _) q)
          have hkn := ref_knots (w1.drewN q) (some ⟨g1, 0, none⟩) i c1 s hes2 (by omega) (fun y hy => (hgs y hy).name2)
          rw [knotsR_is hT (by have := setK_len s s.length; omega)] at hkn
          obtain ⟨K, hK⟩ : ∃ K, K = allK F := ⟨_, rfl⟩
          obtain ⟨Nm, hNm⟩ : ∃ N, N = allN F := ⟨_, rfl⟩
          obtain ⟨z, hz⟩ : ∃ z, z = F.size + 1 := ⟨_, rfl⟩
          have hKl : K.length = z := by rw [hK, hz, allK_len]
          have hNl : Nm.length = z := by rw [hNm, hz, allN_len]
          rw [← hK] at hRK hcap hr hfix hin
          rw [← hNm] at hRK hkn
          rw [← hz] at hin
          have hz1 : 0 < z ∧ z ≤ 8193 := by omega
          have hnbl : ∀ nm ∈ Nm, nm.length ≤ 255 := by
            intro nm h
            rw [hNm, allN] at h
            rcases List.mem_cons.1 h with rfl | h
            · simp
            · obtain ⟨-, -, y, hy, hp⟩ := hT.pre nm h
              exact Nat.le_trans hp.length_le (hgs y hy).name2
          have hbw : Below w.heap.size w (w1.drewN q) := (HR.out.2.1.trans (H1.out.2.1.mono HR.out.2.1.size)).trans ((below_drewNX (Below.refl _ _) q).mono (Nat.le_trans HR.out.2.1.size H1.out.2.1.size))
          have H2 := hid (And.intro hfix (And.intro hgs (And.intro hsl (And.intro hcap (And.intro hr (And.intro hRK (And.intro hin (And.intro hkn (And.intro hKl (And.intro hNl (And.intro hbw (And.intro hes2 hnbl))))))))))))
          clear hap hsb hT hfix hgs hsl hcap hmany hr hRK hin hkn hK hNm hz hKl hNl hbw hes2 hnbl
          obtain ⟨hz0, hz2⟩ := hz1
          go_wp2_with fail
          refine (H2.out.2.2.2.2.2.2.2.1).mono ?_
          rintro e w2 ⟨⟨a6, c6, rfl, ho6⟩, hb6⟩
          rw [H2.out.2.2.2.2.2.2.2.2.2.1] at ho6
          rw [H2.out.2.2.2.2.2.2.2.2.2.1]
          obtain ⟨g6, c6', hv6, -, hg6l, hc6, -⟩ := owns_cell ho6 hz0
          obtain ⟨e6, -, -⟩ := Value.slice.inj hv6
          subst e6
          clear hv6
          have hes2 := H2.out.2.2.2.2.2.2.2.2.2.2.2.1.below hb6
          have hnm : ∀ (j : Nat) (nm : List UInt8), Nm[j]? = some nm → w2.cell? ⟨g6, j, none⟩ = some (.string (mkS nm)) := fun j nm h => hc6 j _ (by unfold strs; rw [List.getElem?_map, h]; rfl)
          have hmr := fun w : World => make_rows w z (by omega)
          have hD : Kd w2 (w2.alloc (.cells (List.replicate z (.slice none 0 0)).toArray 66)) w2.heap.size (.slice (some ⟨w2.heap.size, 0, none⟩) z z) (.slice none 0 0) (List.replicate z (.slice none 0 0, [])) [] :=
            ⟨(Below.refl _ _).alloc (Nat.le_refl _) _, by simp, Rr.start (owns_fresh w2 _ z _ (by simp) (by omega)), World.ownsRow_nil _ _ _ _, Apart.nil _, fun x hx => (Apart.nil _).symm⟩
          have hKf : KfIs (List.replicate z ((.slice none 0 0 : Value), ([] : List Nat))) z (fun _ => []) := ⟨by simp, fun j x hx => by rw [List.eq_of_mem_replicate (List.mem_of_getElem? hx)]⟩
          have hbw2 := H2.out.2.2.2.2.2.2.2.2.2.2.1.trans (hb6.mono H2.out.2.2.2.2.2.2.2.2.2.2.1.size)
          have H3 := hid (And.intro hes2 (And.intro hnm (And.intro hD (And.intro hKf hbw2))))
          clear hes2 hnm hD hKf hbw2 ho6 hb6 hc6 hg6l
          go_upto_region 18 with fail
          obtain ⟨W3, hW3⟩ : ∃ W, W = w2.alloc (.cells (Array.replicate z (.slice none 0 0)) 66) := ⟨_, rfl⟩
          rw [← hW3]
          obtain ⟨B, hB⟩ : ∃ B, B = w2.heap.size := ⟨_, rfl⟩
          have hD : Kd w2 W3 B (.slice (some ⟨B, 0, none⟩) z z) (.slice none 0 0) (List.replicate z (.slice none 0 0, [])) [] := by
            have h1 := H3.out.2.2.1
            rw [List.toArray_replicate, ← hW3, ← hB] at h1
            exact h1
          rw [← hB]
          obtain ⟨Nf, hNf⟩ : ∃ f : Nat → List UInt8, f = fun j => Nm.getD j [] := ⟨_, rfl⟩
          have hNk : ∀ (j : Nat) (nm : List UInt8), Nm[j]? = some nm → Nf j = nm := fun j nm h => by rw [hNf]; show Nm.getD j [] = nm; rw [List.getD_eq_getElem?_getD, h]; rfl
          have HD := hid (And.intro hD (And.intro hNf (And.intro hB hNk)))
          clear hD hNf hW3 hB hNk
          obtain ⟨ii, hii, hiz, his, hib⟩ := info_parts infoIntX
          have HI := hid (And.intro hii (And.intro hiz (And.intro his hib)))
          clear hii hiz his hib
          go_wp2_with fail
          go_loopw [8, 9] (fun v8 v9 wx => HangR w2 B z Nf v8 v9 wx) (fun _ v9 _ => z - (intOf v9).toNat)
          case atStart => exact ⟨0, _, Nat.zero_le _, rfl, HD.out.1, H3.out.2.2.2.1⟩
          case round =>
            obtain ⟨k, LL, hk, rfl, hKd, hKf⟩ := hrel
            obtain ⟨w4, hw4⟩ : ∃ w4, w4 = wr := ⟨_, rfl⟩
            subst hw4
            by_cases hkz : k < z
            · obtain ⟨nk, hnk⟩ : ∃ nk, Nm[k]? = some nk := ⟨_, List.getElem?_eq_getElem (by rw [H2.out.2.2.2.2.2.2.2.2.2.1]; exact hkz)⟩
              obtain ⟨S0, hS0⟩ : ∃ S, S = stK Nf k := ⟨_, rfl⟩
              have hslt := stK_lt Nf k
              rw [← hS0] at hslt hKd hKf
              have q1 : (k : Int) < (z : Int) := by omega
              have HK := hid (And.intro hKd (And.intro hKf (And.intro hnk (And.intro hslt hS0))))
              clear hKd hKf hnk hslt hS0
              go_upto_block 6 with fail
              go_cut [8] from 69 to 102 (fun v8 wx => Kd w2 wx B (.slice (some ⟨B, 0, none⟩) z z) v8 LL (popK Nf k S0.1))
              case first =>
                go_wp2_with fail
                go_loopw [8] (fun v8 wx => PopR w2 B z Nf k LL S0.1 v8 wx) (fun v8 _ => slLen v8)
                case atStart =>
                  obtain ⟨a8, c8, hv8⟩ := ownsRow_form HK.out.1.opn
                  exact ⟨S0.1, a8, c8, hv8, rfl, HK.out.2.2.2.1.1, HK.out.2.2.2.1.2.1, HK.out.1⟩
                case round =>
                  obtain ⟨st, a8, c8, rfl, hpk, hlt, hsl, hd⟩ := hrel
                  cases st with
                  | nil =>
                    have Hd := hid (And.intro hpk hd)
                    clear hpk hlt hd hsl
                    go_wp2_with fail
                    go_quiet (fail)
                    go_wp2_with fail
                    go_meet
                    rw [← Hd.out.1]
                    exact Hd.out.2.next (below_drewNX (Below.refl _ _) _)
                  | cons u rest =>
                    obtain ⟨m, hm⟩ : ∃ m, m = rest.length := ⟨_, rfl⟩
                    rw [List.length_cons, ← hm] at hd hsl
                    rw [List.length_cons, ← hm]
                    obtain ⟨g8, c8', hv8, -, hg8l, hcel, -⟩ := owns_cell hd.opn (by simp)
                    obtain ⟨e8, -, -⟩ := Value.slice.inj hv8
                    subst e8
                    clear hv8
                    have hu : u < k := hlt u (by simp)
                    obtain ⟨nu, hnu⟩ : ∃ nu, Nm[u]? = some nu := ⟨_, List.getElem?_eq_getElem (by rw [H2.out.2.2.2.2.2.2.2.2.2.1]; omega)⟩
                    have a1 : wr.cell? ⟨g8, m, none⟩ = some (.int .i64 (u : Int)) := hcel m _ (natsV_get (by rw [List.reverse_cons, List.getElem?_append_right (by simp; omega)]; simp [hm]))
                    have hcn : ∀ (j : Nat) (nm : List UInt8), Nm[j]? = some nm → wr.cell? ⟨g6, j, none⟩ = some (.string (mkS nm)) := fun j nm h => by
                      have h1 := H3.out.2.1 j nm h
                      exact (hd.bel.cell (p := ⟨g6, j, none⟩) (by rw [HD.out.2.2.1]; exact World.block_lt_of_cell? w2 _ h1)).trans h1
                    have a2 := hcn u nu hnu
                    have a3 := hcn k nk HK.out.2.2.1
                    have hi : Op3 wr g8 m u g6 k nu nk := ⟨a1, a2, a3⟩
                    have hnul : nu.length ≤ 1000000 := Nat.le_trans (H2.out.2.2.2.2.2.2.2.2.2.2.2.2 nu (List.mem_of_getElem? hnu)) (by decide)
                    have hnkl : nk.length ≤ 1000000 := Nat.le_trans (H2.out.2.2.2.2.2.2.2.2.2.2.2.2 nk (List.mem_of_getElem? HK.out.2.2.1)) (by decide)
                    have hfu := HD.out.2.2.2 u nu hnu
                    have hfk := HD.out.2.2.2 k nk HK.out.2.2.1
                    have hsh : ∀ w : World, (Instr.slice 66 (.slice (some ⟨g8, 0, none⟩) (m + 1) c8) none (some (.int .i64 (m : Int))) none).run Tryz.prog w = .ok (.slice (some ⟨g8, 0, none⟩) m c8) w := fun w => by
                      have hc : m + 1 ≤ c8 := by
                        rcases hd.opn.2 with ⟨he, -⟩ | ⟨g', cap', cur, he, h1, h2, h3, h4, -⟩
                        · cases he
                        · obtain ⟨-, -, e3⟩ := Value.slice.inj he
                          rw [List.length_cons, ← hm] at h3
                          omega
                      have := run_subh (P := Tryz.prog) (w := w) (t := 66) (some ⟨g8, 0, none⟩) (m + 1) c8 un_ints (sz_int w) .i64 (m : Int) (by omega) (by omega)
                      rw [this]; rfl
                    have Hd := hid (And.intro hpk (And.intro hlt (And.intro hd (And.intro hm (And.intro hfu hfk)))))
                    clear hpk hlt hd hm hfu hfk hcn hcel hg8l hnu
                    have q2 : (m : Int) < (m : Int) + 1 := by omega
                    have q3 : (u : Int) < (z : Int) := by omega
                    have q5 : IntKind.i64.wrap ((m : Int) + 1 - 1) = (m : Int) := (IntWalk.i64_in _ (by omega)).trans (by omega)
                    have q6 : IntKind.i64.wrap (m : Int) = (m : Int) := IntWalk.i64_in _ (by omega)
                    have q8 : (m : Int) + 1 - 1 = (m : Int) := by omega
                    have d1 : decide (0 < m + 1) = true := by rw [decide_eq_true_eq]; omega
                    have d2 : decide ((0 : Int) < (m : Int) + 1) = true := by rw [decide_eq_true_eq]; omega
                    obtain ⟨sh, hsh2⟩ : ∃ x, x = shareL nu nk := ⟨_, rfl⟩
                    have hcs : ∀ W, Calls Tryz.prog 22 #[.string (mkS nu), .string (mkS nk)] W fun e w' => e = .returned (.string (mkS sh)) ∧ Below W.heap.size W w' := fun W => by rw [hsh2]; exact ref_share W nu nk hnul hnkl
                    have HC := hid (And.intro hcs hsh2)
                    clear hcs hsh2
                    by_cases hpr : sh = nu
                    · have t1 : (sh == nu) = true := by rw [hpr]; simp
                      have t2 : (sh != nu) = false := by rw [hpr]; simp
                      have Hp := hid hpr
                      clear hpr
                      go_wp2_with fail
                      go_region_held3 (fun W => W.cell? ⟨g8, m, none⟩ = some (.int .i64 (u : Int)) ∧ W.cell? ⟨g6, u, none⟩ = some (.string (mkS nu)) ∧ W.cell? ⟨g6, k, none⟩ = some (.string (mkS nk)))
                        (exact ⟨hi.c1, hi.c2, hi.c3⟩)
                        (first
                          | (go_at_call 22; (with_reducible refine (HC.out.1 _).mono ?_); rintro e W2 ⟨rfl, hb2⟩; have hi : Op3 W2 g8 m u g6 k nu nk := (hi.next (by repeat (first | exact Below.refl _ _ | refine below_drewX ?_ | refine below_drewNX ?_ _ | refine Below.alloc ?_ (by simp) _))).next hb2; have HB := hid (belTo (Below.refl wr.heap.size wr) (Nat.le_refl _) (by repeat (first | exact Below.refl _ _ | refine below_drewX ?_ | refine below_drewNX ?_ _ | refine Below.alloc ?_ (by simp) _)) hb2); clear hb2)
                          | fail "no call")
                      all_goals
                        go_wp2_with fail
                        go_meet
                        rw [← Hd.out.1, popK_stop (by rw [Hd.out.2.2.2.2.1, Hd.out.2.2.2.2.2]; exact (share_self nu nk).1 (by rw [← HC.out.2]; exact Hp.out))]
                        exact Hd.out.2.2.1.next HB.out
                    · have t1 : (sh == nu) = false := by rw [beq_eq_false_iff_ne]; exact hpr
                      have t2 : (sh != nu) = true := by rw [bne_iff_ne]; exact hpr
                      have Hp := hid hpr
                      clear hpr
                      go_wp2_with fail
                      go_region_held3 (fun W => W.cell? ⟨g8, m, none⟩ = some (.int .i64 (u : Int)) ∧ W.cell? ⟨g6, u, none⟩ = some (.string (mkS nu)) ∧ W.cell? ⟨g6, k, none⟩ = some (.string (mkS nk)))
                        (exact ⟨hi.c1, hi.c2, hi.c3⟩)
                        (first
                          | (go_at_call 22; (with_reducible refine (HC.out.1 _).mono ?_); rintro e W2 ⟨rfl, hb2⟩; have hi : Op3 W2 g8 m u g6 k nu nk := (hi.next (by repeat (first | exact Below.refl _ _ | refine below_drewX ?_ | refine below_drewNX ?_ _ | refine Below.alloc ?_ (by simp) _))).next hb2; have HB := hid (belTo (Below.refl wr.heap.size wr) (Nat.le_refl _) (by repeat (first | exact Below.refl _ _ | refine below_drewX ?_ | refine below_drewNX ?_ _ | refine Below.alloc ?_ (by simp) _)) hb2); clear hb2)
                          | fail "no call")
                      all_goals
                        go_wp2_with fail
                        go_roundw
                        case rel =>
                          refine ⟨rest, some ⟨g8, 0, none⟩, c8, by rw [← Hd.out.2.2.2.1], ?_, fun x hx => Hd.out.2.1 x (by simp [hx]), by rw [← Hd.out.2.2.2.1]; omega, (Hd.out.2.2.1.next HB.out).pop Hd.out.2.2.2.1.symm⟩
                          rw [← Hd.out.1]
                          refine (popK_skip (fun hp => Hp.out ?_)).symm
                          rw [Hd.out.2.2.2.2.1, Hd.out.2.2.2.2.2] at hp
                          rw [HC.out.2]
                          exact (share_self nu nk).2 hp
                        case measure => simp [slLen] <;> omega
              case rest =>
                obtain ⟨T, hT⟩ : ∃ T, T = popK Nf k S0.1 := ⟨_, rfl⟩
                rw [← hT] at hcut
                have hTs : ∀ u ∈ T, u < k := fun u hu => HK.out.2.2.2.1.1 u ((popK_sub Nf k S0.1).subset (by rw [← hT]; exact hu))
                have hTl : T.length ≤ k := by have h1 := (popK_sub Nf k S0.1).length_le; rw [← hT] at h1; exact Nat.le_trans h1 HK.out.2.2.2.1.2.1
                obtain ⟨a8, c8, hv8⟩ := ownsRow_form hcut.opn
                subst hv8
                obtain ⟨t, ht⟩ : ∃ t, t = T.length := ⟨_, rfl⟩
                rw [← ht] at hcut
                rw [← ht]
                have hopn := hcut.opn
                rw [← ht] at hopn
                have hbig := hcut.big
                rw [← ht] at hTl
                cases T with
                | nil =>
                  have ht0 : t = 0 := ht
                  subst ht0
                  have HT := hid (And.intro hT (And.intro hcut hopn))
                  clear hT hcut hopn ht hTs
                  go_wp2_with (at_builtin; refine wpList_append_grew _ rfl _ _ _ _ rfl B 3 ii _ 1 8 un_intsX HI.out.1 HI.out.2.1 HI.out.2.2.1 HI.out.2.2.2 rfl _ 0 (natsV ([] : List Nat).reverse) rfl (ownsRow_below HT.out.2.2 (by repeat (first | exact Below.refl _ _ | refine below_drewX ?_ | refine below_drewNX ?_ _ | refine Below.alloc ?_ (by simp) _))) _ 1 [.int .i64 (k : Int)] rfl (Src.laid _ un_intsX [.int .i64 (k : Int)] 1 rfl (by simp [Value.oneCell']) (0, 0) (by simp)) ?n1 ?n2 ?n3 ?_)
                  case n1 => exact Nat.le_trans (show 0 + 1 ≤ 100000 by omega) (by decide)
                  case n2 => omega
                  case n3 => simp; omega
                  intro v9 W9 ho9 hg9
                  have hg9' : Grew wc W9 (.slice a8 0 c8) v9 := Grew.under ((Below.refl _ _).alloc (Nat.le_refl _) _) hg9
                  have hP := HT.out.2.1.push (i := k) hg9' ho9
                  have H9 := hid hP
                  clear ho9 hg9 hg9' hP
                  go_wp2_with fail
                  go_roundw
                  case rel =>
                    refine ⟨k + 1, LL, by omega, by go_num, ?_, ?_⟩
                    · rw [stK_succ, ← HK.out.2.2.2.2]
                      unfold stepK
                      rw [← HT.out.1]
                      exact H9.out
                    · rw [stK_succ, ← HK.out.2.2.2.2]
                      unfold stepK
                      rw [← HT.out.1]
                      exact HK.out.2.1
                  case measure => simp [intOf]; omega
                | cons u rest =>
                  obtain ⟨m, hm⟩ : ∃ m, m = rest.length := ⟨_, rfl⟩
                  have ht1 : t = m + 1 := by rw [ht, List.length_cons, hm]
                  subst ht1
                  obtain ⟨g8, c8', hv8, -, hg8l, hcel, -⟩ := owns_cell hopn (by omega)
                  obtain ⟨e8, -, -⟩ := Value.slice.inj hv8
                  subst e8
                  clear hv8
                  have hu : u < k := hTs u (by simp)
                  have a1 : wc.cell? ⟨g8, m, none⟩ = some (.int .i64 (u : Int)) := hcel m _ (natsV_get (by rw [List.reverse_cons, List.getElem?_append_right (by simp; omega)]; simp [hm]))
                  obtain ⟨L1, x, L2, hLL, hL1⟩ := HK.out.2.1.split (u := u) (by omega)
                  have hKf := HK.out.2.1
                  subst hLL
                  have hxm : x ∈ L1 ++ x :: L2 := by simp
                  have hxk := hcut.rows.kids x hxm
                  obtain ⟨ka, kc, hkv⟩ := ownsRow_form hxk
                  obtain ⟨kn, hkn⟩ : ∃ n, n = x.2.length := ⟨_, rfl⟩
                  rw [← hkn] at hxk hkv
                  rw [hkv] at hxk
                  have hxb : kn ≤ 9000 := by
                    have h1 := hKf.2 u x (by rw [List.getElem?_append_right (by omega), hL1, Nat.sub_self]; rfl)
                    have h2 := HK.out.2.2.2.1.2.2 u
                    rw [hkn, h1]; omega
                  have hlen : (L1 ++ x :: L2).length = z := hKf.1
                  have hrw := hcut.rows.row
                  rw [hlen] at hrw
                  obtain ⟨gB, cB, hvB, -, -, hcB, hfB⟩ := owns_cell hrw hz0
                  obtain ⟨eB, -, -⟩ := Value.slice.inj hvB
                  obtain ⟨eB, -, -⟩ := Addr.mk.inj (Option.some.inj eB)
                  subst eB
                  clear hvB
                  have b1 : wc.cell? ⟨B, u, none⟩ = some (.slice ka kn kc) := by
                    refine hcB u _ ?_
                    rw [List.map_append, List.getElem?_append_right (by rw [List.length_map]; omega), List.length_map, hL1, Nat.sub_self, ← hkv]; rfl
                  have f1 : wc.frozen? ⟨B, u, none⟩ = false := hfB u
                  have hkB : (Value.slice ka kn kc).ownBlock ≠ some B := fun e => hcut.rows.away x hxm B (by rw [hkv]; exact e) rfl
                  have HT := hid (And.intro hT (And.intro hcut (And.intro hopn (And.intro hxk (And.intro hkv (And.intro hkn (And.intro hlen (And.intro hKf (And.intro hL1 (And.intro hkB (And.intro b1 (And.intro f1 hm))))))))))))
                  clear hT hcut hopn ht hTs hcel hg8l hxm hxk hkv hkn hlen hKf hL1 hrw hcB hfB hkB hm
                  have q2 : (m : Int) < (m : Int) + 1 := by omega
                  have q3 : (u : Int) < (z : Int) := by omega
                  have q5 : IntKind.i64.wrap ((m : Int) + 1 - 1) = (m : Int) := (IntWalk.i64_in _ (by omega)).trans (by omega)
                  have q6 : IntKind.i64.wrap (m : Int) = (m : Int) := IntWalk.i64_in _ (by omega)
                  have q8 : (m : Int) + 1 - 1 = (m : Int) := by omega
                  have d1 : decide (0 < m + 1) = true := by rw [decide_eq_true_eq]; omega
                  have d2 : decide ((0 : Int) < (m : Int) + 1) = true := by rw [decide_eq_true_eq]; omega
                  go_wp2_with (at_builtin; refine wpList_append_grew _ rfl _ _ _ _ rfl B 3 ii _ 1 8 un_intsX HI.out.1 HI.out.2.1 HI.out.2.2.1 HI.out.2.2.2 rfl _ kn (natsV x.2) rfl (ownsRow_below HT.out.2.2.2.1 (by repeat (first | exact Below.refl _ _ | refine below_drewX ?_ | refine below_drewNX ?_ _ | refine Below.alloc ?_ (by simp) _))) _ 1 [.int .i64 (k : Int)] rfl (Src.laid _ un_intsX [.int .i64 (k : Int)] 1 rfl (by simp [Value.oneCell']) (0, 0) (by simp)) ?k1 ?k2 ?k3 ?_)
                  case k1 => exact Nat.le_trans (show kn + 1 ≤ 100000 by omega) (by decide)
                  case k2 => omega
                  case k3 => first | exact hbig | (simp; omega) | omega
                  intro v6 W6 ho6 hg6
                  have hg6' : Grew wc W6 (.slice ka kn kc) v6 := Grew.under ((Below.refl _ _).alloc (Nat.le_refl _) _) hg6
                  have y1 := hg6'.cell b1 HT.out.2.2.2.2.2.2.2.2.2.1
                  have y2 := frozen_below f1 (hg6'.block (World.block_lt_of_cell? wc _ b1) HT.out.2.2.2.2.2.2.2.2.2.1)
                  obtain ⟨ka6, kc6, hv6⟩ := ownsRow_form ho6
                  subst hv6
                  have H6 := hid (And.intro ho6 hg6')
                  clear ho6 hg6 hg6' a1 b1 f1
                  go_upto_region 27 with fail
                  obtain ⟨W7, hW7⟩ : ∃ W7, W7 = W6.setCell ⟨B, u, none⟩ (.slice ka6 (kn + 1) kc6) := ⟨_, rfl⟩
                  rw [← hW7]
                  have hK7 : Kd w2 W7 B (.slice (some ⟨B, 0, none⟩) z z) (.slice (some ⟨g8, 0, none⟩) (m + 1) c8) (L1 ++ (.slice ka6 (kn + 1) kc6, x.2 ++ [k]) :: L2) (u :: rest) := by
                    have h1 := HT.out.2.1.kid (L1 := L1) (L2 := L2) (x := x) HT.out.2.2.2.2.2.2.1 (.slice ka6 (kn + 1) kc6) k (by rw [HT.out.2.2.2.2.1]; exact H6.out.2) (by rw [← HT.out.2.2.2.2.2.1]; exact H6.out.1)
                    rw [HT.out.2.2.2.2.2.2.2.2.1] at h1
                    rw [hW7]; exact h1
                  have hm7 := HT.out.2.2.2.2.2.2.2.2.2.2.2.2
                  have hopn7 := hK7.opn
                  rw [List.length_cons, ← hm7] at hopn7
                  have hbig7 := hK7.big
                  have H7 := hid (And.intro hK7 (And.intro hopn7 hm7))
                  clear hK7 hopn7 hm7 hW7 y1 y2
                  go_wp2_with (at_builtin; refine wpList_append_grew _ rfl _ _ _ _ rfl B 3 ii _ 1 8 un_intsX HI.out.1 HI.out.2.1 HI.out.2.2.1 HI.out.2.2.2 rfl _ (m + 1) (natsV (u :: rest).reverse) rfl (ownsRow_below H7.out.2.1 (by repeat (first | exact Below.refl _ _ | refine below_drewX ?_ | refine below_drewNX ?_ _ | refine Below.alloc ?_ (by simp) _))) _ 1 [.int .i64 (k : Int)] rfl (Src.laid _ un_intsX [.int .i64 (k : Int)] 1 rfl (by simp [Value.oneCell']) (0, 0) (by simp)) ?j1 ?j2 ?j3 ?_)
                  case j1 => exact Nat.le_trans (show m + 1 + 1 ≤ 100000 by omega) (by decide)
                  case j2 => omega
                  case j3 => first | exact hbig7 | (simp; omega)
                  intro v9 W9 ho9 hg9
                  have hg9' : Grew W7 W9 (.slice (some ⟨g8, 0, none⟩) (m + 1) c8) v9 := Grew.under ((Below.refl _ _).alloc (Nat.le_refl _) _) hg9
                  have hP := H7.out.1.push (i := k) hg9' (by rw [List.length_cons, ← H7.out.2.2, List.reverse_cons]; exact ho9)
                  have H9 := hid hP
                  clear ho9 hg9 hg9' hP
                  go_wp2_with fail
                  go_roundw
                  case rel =>
                    refine ⟨k + 1, L1 ++ (.slice ka6 (kn + 1) kc6, x.2 ++ [k]) :: L2, by omega, by go_num, ?_, ?_⟩
                    · rw [stK_succ, ← HK.out.2.2.2.2]
                      unfold stepK
                      rw [← HT.out.1]
                      exact H9.out
                    · rw [stK_succ, ← HK.out.2.2.2.2]
                      unfold stepK
                      rw [← HT.out.1]
                      have h1 := HT.out.2.2.2.2.2.2.2.1.hang (.slice ka6 (kn + 1) kc6) k rest
                      rw [HT.out.2.2.2.2.2.2.2.2.1] at h1
                      exact h1
                  case measure => simp [intOf]; omega
            · obtain rfl : k = z := by omega
              have hRK := H2.out.2.2.2.2.2.1
              have hKl := H2.out.2.2.2.2.2.2.2.2.1
              have hRA : RefAt w4 K Nm s (.slice (some ⟨g1, 0, none⟩) i c1) g6 B := by
                have hlow : ∀ (b o : Nat) (u : Value), w2.cell? ⟨b, o, none⟩ = some u → w4.cell? ⟨b, o, none⟩ = some u := fun b o u h =>
                  (hKd.bel.cell (p := ⟨b, o, none⟩) (by rw [HD.out.2.2.1]; exact World.block_lt_of_cell? w2 _ h)).trans h
                refine ⟨fun j nm hj => hlow _ _ _ (H3.out.2.1 j nm hj), fun j kn hj => ?_, (H3.out.1).below (by rw [← HD.out.2.2.1]; exact hKd.bel)⟩
                have hjz : j < k := by rw [← hKl]; exact (List.getElem?_eq_some_iff.1 hj).1
                obtain ⟨x, hx⟩ : ∃ x, LL[j]? = some x := ⟨_, List.getElem?_eq_getElem (by rw [hKf.1]; exact hjz)⟩
                have hxk := hKd.rows.kids x (List.mem_of_getElem? hx)
                have hx2 : x.2 = kn.kids.map Prod.snd := by
                  rw [hKf.2 j x hx, HD.out.2.1, ← hKl]
                  exact hRK.nums j kn hj
                obtain ⟨ka, kc, hkv⟩ := ownsRow_form hxk
                rw [hx2, List.length_map] at hkv
                have hrw := hKd.rows.row
                rw [hKf.1] at hrw
                obtain ⟨gB, cB, hvB, -, -, hcB, -⟩ := owns_cell hrw hz0
                obtain ⟨eB, -, -⟩ := Value.slice.inj hvB
                obtain ⟨eB, -, -⟩ := Addr.mk.inj (Option.some.inj eB)
                subst eB
                refine ⟨ka, kc, hcB j _ (by rw [List.getElem?_map, hx, ← hkv]; rfl), fun t r hr => ?_⟩
                have hpos : 0 < x.2.length := by rw [hx2, List.length_map]; have := (List.getElem?_eq_some_iff.1 hr).1; omega
                obtain ⟨g, c', hvg, -, -, hcg, -⟩ := owns_cell hxk hpos
                rw [hkv] at hvg
                obtain ⟨eg, -, -⟩ := Value.slice.inj hvg
                refine ⟨g, eg, hcg t _ (natsV_get ?_)⟩
                rw [hx2, List.getElem?_map, hr]; rfl
              have hbw5 := H3.out.2.2.2.2.trans (hKd.bel.mono (by rw [HD.out.2.2.1]; exact H3.out.2.2.2.2.size))
              have hmi := fun w : World => make_ints w k (by omega)
              have hsml : ∀ r a, (iterP K r).getD a 0 ≤ 600000000 := fun r a => Nat.le_trans (iterP_small K r a) H2.out.2.2.2.1
              have H5 := hid (And.intro hRA (And.intro hbw5 (And.intro hRK (And.intro hKl hsml))))
              clear hRA hbw5 hRK hKl hKd hKf hsml hmr
              go_wp2_with fail
              obtain ⟨w5, hw5⟩ : ∃ w5, w5 = w4 := ⟨_, rfl⟩
              have hpl : ((w4.alloc (.cells (natsV (List.replicate k 0)).toArray 3))).ownsRow w4.heap.size 3 1 (.slice (some ⟨w4.heap.size, 0, none⟩) k k) k (natsV (iterP K 0)) := by
                have h1 := owns_fresh w4 3 k (natsV (List.replicate k 0)) (by simp [natsV]) (by omega)
                have e : iterP K 0 = List.replicate k 0 := by unfold iterP; rw [H5.out.2.2.2.1]
                rw [e]; exact h1
              obtain ⟨W6, hW6⟩ : ∃ W, W = w4.alloc (.cells (natsV (List.replicate k 0)).toArray 3) := ⟨_, rfl⟩
              have hb6 : Below w4.heap.size w4 W6 := by rw [hW6]; exact (Below.refl _ _).alloc (Nat.le_refl _) _
              rw [← hW6] at hpl ⊢
              have H6 := hid (And.intro hpl hb6)
              clear hpl hb6 hW6 hw5
              have hPl0 : ∀ r, (iterP K r).length = k := fun r => by rw [iterP_len, H5.out.2.2.2.1]
              have HPl := hid hPl0
              clear hPl0
              go_loopg [11] (leftP (capB K + 1) (iterP K 0)) (fun d v11 wx => RoundQ w4 k K d v11 wx)
              case atStart => exact ⟨0, _, _, rfl, rfl, H6.out.2, H6.out.1⟩
              case round =>
                obtain ⟨r, g11, c11, hgk, rfl, hb7, hpl⟩ := hrel
                obtain ⟨P, hP⟩ : ∃ P, P = iterP K r := ⟨_, rfl⟩
                rw [← hP] at hgk hpl
                have hPl : P.length = k := by rw [hP]; exact HPl.out r
                have hPs : ∀ a, P.getD a 0 ≤ 600000000 := fun a => by rw [hP]; exact H5.out.2.2.2.2 r a
                obtain ⟨w7, hw7⟩ : ∃ w7, w7 = wr := ⟨_, rfl⟩
                subst hw7
                obtain ⟨W8, hW8⟩ : ∃ W, W = w7.alloc (.cells (natsV (List.replicate k 0)).toArray 3) := ⟨_, rfl⟩
                obtain ⟨g13, hg13⟩ : ∃ g, g = w7.heap.size := ⟨_, rfl⟩
                have hnx : W8.ownsRow w7.heap.size 3 1 (.slice (some ⟨g13, 0, none⟩) k k) k (natsV (List.replicate k 0)) := by
                  rw [hW8, hg13]
                  exact owns_fresh w7 3 k (natsV (List.replicate k 0)) (by simp [natsV]) (by omega)
                have hb8 : Below w7.heap.size w7 W8 := by rw [hW8]; exact (Below.refl _ _).alloc (Nat.le_refl _) _
                have hRq : Rq w4 W8 k P (mixQ (nextP K P) (List.replicate k 0) 0) (.slice (some ⟨g11, 0, none⟩) k c11) (.slice (some ⟨g13, 0, none⟩) k k) (.slice none 0 0) (outB (K.take 0) P) :=
                  ⟨hb7.trans (hb8.mono hb7.size), ownsRow_below hpl hb8, by rw [mixQ_zero]; exact ownsRow_base hnx hb7.size, OB.nil _ _ _, (Apart.nil _).symm, (Apart.nil _).symm, fun a ha e => by
                    have h1 : g11 = a := by simpa [Value.ownBlock] using ha
                    have h2 : g13 = a := by simpa [Value.ownBlock] using e
                    have := (hpl.lt g11 rfl).2
                    omega⟩
                have H8 := hid (And.intro hRq (And.intro hP (And.intro hgk (And.intro hPl hPs))))
                clear hRq hP hgk hPl hPs hnx hb8 hb7 hpl
                go_upto_region 31 with fail
                rw [← hg13, ← hW8]
                have H9 := hid (And.intro hg13 hW8)
                clear hg13 hW8 hmi
                go_wp2_with fail
                go_loopw [12, 14, 15] (fun v12 v14 v15 wx => NodesQ w4 k K P (.slice (some ⟨g11, 0, none⟩) k c11) (.slice (some ⟨g13, 0, none⟩) k k) v12 v14 v15 wx) (fun _ _ v15 _ => k - (intOf v15).toNat)
                case atStart => exact ⟨0, Nat.zero_le _, rfl, rfl, H8.out.1⟩
                case round =>
                  obtain ⟨j, hj, rfl, rfl, hRq⟩ := hrel
                  obtain ⟨a12, c12, hv12⟩ := hRq.outb.form
                  obtain ⟨mm, hmm⟩ : ∃ m, m = (outB (K.take j) P).length := ⟨_, rfl⟩
                  rw [← hmm] at hv12
                  subst hv12
                  by_cases hjk : j < k
                  · have hKl := H5.out.2.2.2.1
                    obtain ⟨kn, hkn⟩ : ∃ kn, K[j]? = some kn := ⟨_, List.getElem?_eq_getElem (by omega)⟩
                    obtain ⟨nm, hnm⟩ : ∃ nm, Nm[j]? = some nm := ⟨_, List.getElem?_eq_getElem (by rw [H5.out.2.2.1.len, hKl]; exact hjk)⟩
                    obtain ⟨Q, hQ⟩ : ∃ Q, Q = mixQ (nextP K P) (List.replicate k 0) j := ⟨_, rfl⟩
                    rw [← hQ] at hRq
                    have hQl : Q.length = k := by rw [hQ]; unfold mixQ; rw [List.length_append, List.length_take, nextP_len, List.length_drop, List.length_replicate]; omega
                    obtain ⟨s1, f1⟩ := owns_nat hRq.nxt (getD_some (show j < Q.length by omega))
                    obtain ⟨old, hold⟩ : ∃ o, o = Q.getD j 0 := ⟨_, rfl⟩
                    rw [← hold] at s1
                    have hmb : mm ≤ 600000000 := by rw [hmm]; exact Nat.le_trans (outB_take_le P K j) (Nat.le_trans (outB_le P K) H2.out.2.2.2.1)
                    have hset := hRq.set rfl j mm
                    rw [show Q.set j mm = mixQ (nextP K P) (List.replicate k 0) (j + 1) by rw [hQ]; exact mixQ_step (by rw [nextP_len, hKl]) (by simp) hjk (by rw [nextP_get K P (by omega), hmm])] at hset
                    have q1 : (j : Int) < (k : Int) := by omega
                    obtain ⟨at_, hat⟩ : ∃ a, a = atK K j := ⟨_, rfl⟩
                    rw [← hat]
                    have hatj : at_ ≤ j := by rw [hat]; exact atK_le H5.out.2.2.1 j
                    obtain ⟨W10, hW10⟩ : ∃ W, W = wr.setCell ⟨g13, j, none⟩ (.int .i64 (mm : Int)) := ⟨_, rfl⟩
                    rw [← hW10] at hset
                    have hsay := H5.out.2.2.1.say j kn nm hkn hnm
                    rw [← hat] at hsay
                    have hats := atK_succ hkn
                    rw [← hat] at hats
                    have HJ := hid (And.intro hkn (And.intro hnm (And.intro hset (And.intro hmm (And.intro hats (And.intro hsay hW10))))))
                    clear hkn hnm hset hmm hat hRq hQ hQl hold hKl hW10 hsay hats
                    go_upto_region 36 with fail
                    rw [← HJ.out.2.2.2.2.2.2]
                    clear s1 f1 old
                    have hRA10 := H5.out.1.next HJ.out.2.2.1.bel
                    have n1 := hRA10.nm j nm HJ.out.2.1
                    have hes10 := hRA10.es
                    have hsl := H2.out.2.2.1
                    have HA := hid hRA10
                    clear hRA10
                    go_cut [158] (fun t wx => t = .bool kn.says.isSome ∧ ∃ q, wx = W10.drewN q)
                    case first =>
                      rcases HJ.out.2.2.2.2.2.1 with ⟨hsy, hno⟩ | ⟨x, hsy, hxs, hxn⟩
                      · by_cases hal : at_ < i
                        · obtain ⟨x, hxs⟩ : ∃ x, s[at_]? = some x := ⟨_, List.getElem?_eq_getElem (by omega)⟩
                          obtain ⟨gx, ox, hgx, x0, -⟩ := hes10.at hxs
                          cases hgx
                          rw [Nat.zero_add] at x0
                          have t1 : (x.name == nm) = false := by rw [beq_eq_false_iff_ne]; exact hno x hxs
                          have d1 : decide ((at_ : Int) < (i : Int)) = true := by rw [decide_eq_true_eq]; omega
                          have d2 : decide (at_ < i) = true := by rw [decide_eq_true_eq]; omega
                          have q2 : (at_ : Int) < (i : Int) := by omega
                          have Hx := hid (And.intro hsy hes10)
                          clear hsy hno hxs hes10
                          go_wp2_with fail
                          go_quiet (fail)
                          go_wp2_with fail
                          go_meet
                          exact ⟨by rw [Hx.out.1]; rfl, _, rfl⟩
                        · have d1 : decide ((at_ : Int) < (i : Int)) = false := by rw [decide_eq_false_iff_not]; omega
                          have d2 : decide (at_ < i) = false := by rw [decide_eq_false_iff_not]; omega
                          have Hx := hid (And.intro hsy hes10)
                          clear hsy hno hes10 hal
                          go_wp2_with fail
                          go_quiet (fail)
                          go_wp2_with fail
                          go_meet
                          exact ⟨by rw [Hx.out.1]; rfl, _, rfl⟩
                      · have hal : at_ < i := by have := (List.getElem?_eq_some_iff.1 hxs).1; omega
                        obtain ⟨gx, ox, hgx, x0, -⟩ := hes10.at hxs
                        cases hgx
                        rw [Nat.zero_add] at x0
                        have t1 : (x.name == nm) = true := by rw [hxn]; simp
                        have d1 : decide ((at_ : Int) < (i : Int)) = true := by rw [decide_eq_true_eq]; omega
                        have d2 : decide (at_ < i) = true := by rw [decide_eq_true_eq]; omega
                        have q2 : (at_ : Int) < (i : Int) := by omega
                        have Hx := hid (And.intro hsy hes10)
                        clear hsy hxs hxn hes10
                        go_wp2_with fail
                        go_quiet (fail)
                        go_wp2_with fail
                        go_meet
                        exact ⟨by rw [Hx.out.1]; rfl, _, rfl⟩
                    case rest =>
                      obtain ⟨rfl, q', rfl⟩ := hcut
                      obtain ⟨W11, hW11⟩ : ∃ W, W = W10.drewN q' := ⟨_, rfl⟩
                      rw [← hW11]
                      have hb11 : Below W10.heap.size W10 W11 := by rw [hW11]; exact below_drewNX (Below.refl _ _) q'
                      have hR11 := HJ.out.2.2.1.next hb11
                      have hA11 := HA.out.next hb11
                      have hgx : ∀ x ∈ s, GoodX x := H2.out.2.1
                      obtain ⟨iu, RU⟩ := u8rowX
                      have HU := hid (And.intro RU hgx)
                      have H11 := hid (And.intro hR11 hA11)
                      clear hb11 hR11 hA11 hgx RU hW11 hes10 n1
                      go_upto_if 158 with fail
                      go_cut [12, 14] (fun v12 v14 wx => v14 = .int .i64 ((atK K (j + 1) : Nat) : Int) ∧ Rq w4 wx k P (mixQ (nextP K P) (List.replicate k 0) (j + 1)) (.slice (some ⟨g11, 0, none⟩) k c11) (.slice (some ⟨g13, 0, none⟩) k k) v12 (outB (K.take j) P ++ saidM kn.says))
                      case first =>
                        rcases HJ.out.2.2.2.2.2.1 with ⟨hsy, hno⟩ | ⟨x, hsy, hxs, hxn⟩
                        · have hat1 := HJ.out.2.2.2.2.1
                          rw [hsy] at hat1
                          rw [hsy]
                          have Hx := hid (And.intro hat1 hsy)
                          clear hat1 hsy hno
                          go_wp2_with (at_builtin; refine wpList_bytes HU.out.1 _ rfl _ _ _ rfl w4.heap.size _ (outB (K.take j) P) rfl (H11.out.1.outb.below ((Below.refl _ _).alloc (Nat.le_refl _) _)) _ [0] rfl (Src.byteX W11 un_bsX 0 0 rfl _ rfl) ?h1 ?h2 ?_)
                          case h1 => have := HJ.out.2.2.2.1; simp; omega
                          case h2 => have := H11.out.1.bel.size; simp; omega
                          intro v9 W9 ho9 hg9
                          have hg9' : Grew W11 W9 (.slice a12 mm c12) v9 := Grew.under ((Below.refl _ _).alloc (Nat.le_refl _) _) hg9
                          have hR9 := H11.out.1.app hg9' ho9
                          have H12 := hid hR9
                          clear ho9 hg9 hg9' hR9
                          go_wp2_with fail
                          go_meet
                          exact ⟨by rw [Hx.out.1]; simp, by rw [Hx.out.2]; exact H12.out⟩
                        · have hat1 := HJ.out.2.2.2.2.1
                          rw [hsy] at hat1
                          rw [hsy]
                          have hxm := List.mem_of_getElem? hxs
                          have hal : at_ < i := by have := (List.getElem?_eq_some_iff.1 hxs).1; omega
                          have q2 : (at_ : Int) < (i : Int) := by omega
                          obtain ⟨gx, ox, hgx, x0, x1, x2, x3, x4, x5, x6⟩ := H11.out.2.es.at hxs
                          cases hgx
                          rw [Nat.zero_add] at x0 x1 x2 x3 x4 x5 x6
                          have hC : Calls Tryz.prog 23 #[.agg #[.string (mkS x.name), .int .i64 x.kind, .bool x.weak, .int .u64 (x.value : Int), .int .u64 (x.resolver : Int), .int .u64 (x.ordinal : Int), .string (mkS x.other)]] W11 (BytesEnd W11 (saidM (some x))) := rsaid_any W11 x (HU.out.2 x hxm)
                          have hsb : (saidM (some x)).length ≤ 300 := by have h1 := saidM_len x; have h2 := (HU.out.2 x hxm).other2; omega
                          have Hx := hid (And.intro hat1 (And.intro hsy (And.intro hC hsb)))
                          clear hat1 hsy hxs hxn hxm hC hsb
                          go_wp2_with fail
                          refine (Hx.out.2.2.1).mono ?_
                          rintro e w12 ⟨⟨ab, cb, rfl, hob⟩, hb12⟩
                          have hR12 := H11.out.1.next hb12
                          have HB12 := hid (And.intro hR12 hob)
                          clear hR12 hob hb12 x0 x1 x2 x3 x4 x5 x6
                          go_wp2_with (at_builtin; refine wpList_bytes HU.out.1 _ rfl _ _ _ rfl w4.heap.size _ (outB (K.take j) P) rfl HB12.out.1.outb _ (saidM (some x)) rfl (Src.ofBS un_bsX (HB12.out.2.bs (by have := Hx.out.2.2.2; omega))) ?i1 ?i2 ?_)
                          case i1 => have h1 := HJ.out.2.2.2.1; have h2 := Hx.out.2.2.2; omega
                          case i2 => exact HB12.out.1.bel.size
                          intro v9 W9 ho9 hg9
                          have hR9 := HB12.out.1.app hg9 ho9
                          have H12 := hid hR9
                          clear ho9 hg9 hR9
                          go_wp2_with fail
                          go_meet
                          exact ⟨by rw [Hx.out.1]; simp, by rw [Hx.out.2.1]; exact H12.out⟩
                      case rest =>
                        obtain ⟨rfl, hRc⟩ := hcut
                        obtain ⟨B0, hB0⟩ : ∃ l, l = outB (K.take j) P ++ saidM kn.says := ⟨_, rfl⟩
                        rw [← hB0] at hRc
                        obtain ⟨a13, c13, hv13⟩ := hRc.outb.form
                        subst hv13
                        obtain ⟨Q1, hQ1⟩ : ∃ q, q = mixQ (nextP K P) (List.replicate k 0) (j + 1) := ⟨_, rfl⟩
                        rw [← hQ1] at hRc
                        have hAc := H5.out.1.next hRc.bel
                        obtain ⟨ka, kc, e1, hkt⟩ := hAc.kd j kn HJ.out.1
                        obtain ⟨nn, hnn⟩ : ∃ n, n = kn.kids.length := ⟨_, rfl⟩
                        rw [← hnn] at e1
                        obtain ⟨y, hy⟩ : ∃ y : UInt8, y = UInt8.ofNat nn := ⟨_, rfl⟩
                        have hy1 : (nn : Int) % 256 = (y.toNat : Int) := by rw [hy]; simp
                        have hy2 : IntKind.u8.wrap (nn : Int) = (y.toNat : Int) := hy1
                        have hkm := List.mem_of_getElem? HJ.out.1
                        have hoall : (outB (K.take (j + 1)) P).length ≤ 600000000 := Nat.le_trans (outB_take_le P K (j + 1)) (Nat.le_trans (outB_le P K) H2.out.2.2.2.1)
                        have hoe : outB (K.take (j + 1)) P = B0 ++ [y] ++ kn.kids.flatMap (kidB P) := by rw [outB_take HJ.out.1, hB0, hy, hnn]; unfold knotB; simp
                        have hB0l : B0.length ≤ 600000000 := by rw [hoe] at hoall; simp only [List.length_append] at hoall; omega
                        have hnb : nn < 256 := by rw [hnn]; exact (H2.out.2.2.2.2.2.2.1 kn hkm).few
                        have HC := hid (And.intro hRc (And.intro hAc (And.intro hkt (And.intro hnn (And.intro hQ1 (And.intro hB0 (And.intro hoall (And.intro hoe hy1))))))))
                        clear hRc hAc hkt hnn hQ1 hB0 hoall hoe hkm hy hy1
                        go_wp2_with (at_builtin; refine wpList_bytes HU.out.1 _ rfl _ _ _ rfl w4.heap.size _ B0 rfl (HC.out.1.outb.below ((Below.refl _ _).alloc (Nat.le_refl _) _)) _ [y] rfl (Src.byteX wc un_bsX _ y (by first | rfl | exact HC.out.2.2.2.2.2.2.2.2) _ rfl) ?l1 ?l2 ?_)
                        case l1 => simp; omega
                        case l2 => have := HC.out.1.bel.size; simp; omega
                        intro v9 W9 ho9 hg9
                        have hg9' : Grew wc W9 (.slice a13 B0.length c13) v9 := Grew.under ((Below.refl _ _).alloc (Nat.le_refl _) _) hg9
                        have hR9 := HC.out.1.app hg9' ho9
                        have hA9 := H5.out.1.next hR9.bel
                        have H12 := hid (And.intro hR9 hA9)
                        clear ho9 hg9 hg9' hR9 hA9 e1 hy2
                        go_wp2_with fail
                        go_loopw [12, 16] (fun v12 v16 wx => KidsQ w4 k P Q1 (B0 ++ [y]) kn.kids (.slice (some ⟨g11, 0, none⟩) k c11) (.slice (some ⟨g13, 0, none⟩) k k) v12 v16 wx) (fun _ v16 _ => nn - (intOf v16).toNat)
                        case atStart => exact ⟨0, Nat.zero_le _, rfl, by simpa using H12.out.1⟩
                        case round =>
                          obtain ⟨t, ht, rfl, hRt⟩ := hrel
                          rw [← HC.out.2.2.2.1] at ht
                          obtain ⟨L0, hL0⟩ : ∃ l, l = B0 ++ [y] ++ (kn.kids.take t).flatMap (kidB P) := ⟨_, rfl⟩
                          rw [← hL0] at hRt
                          obtain ⟨t5a, t5c, hv5⟩ := hRt.outb.form
                          subst hv5
                          have hAt := H5.out.1.next hRt.bel
                          obtain ⟨kb, kd, e1, hkt⟩ := hAt.kd j kn HJ.out.1
                          rw [← HC.out.2.2.2.1] at e1
                          have hLb : ∀ a, (B0 ++ [y] ++ (kn.kids.take a).flatMap (kidB P)).length ≤ 600000000 := fun a => by
                            have h1 := kids_le (P := P) (B0 ++ [y]) kn.kids a
                            have h2 := HC.out.2.2.2.2.2.2.1
                            rw [HC.out.2.2.2.2.2.2.2.1] at h2
                            omega
                          by_cases htn : t < nn
                          · obtain ⟨r0, hr0⟩ : ∃ r0, kn.kids[t]? = some r0 := ⟨_, List.getElem?_eq_getElem (by rw [← HC.out.2.2.2.1]; exact htn)⟩
                            obtain ⟨gk, hga, e2⟩ := hkt t r0 hr0
                            subst hga
                            obtain ⟨hrz, hrn⟩ := H5.out.2.2.1.kid j kn nm HJ.out.1 HJ.out.2.1 r0 (List.mem_of_getElem? hr0)
                            rw [H5.out.2.2.2.1] at hrz
                            obtain ⟨E, o, hro⟩ : ∃ E o, r0 = (E, o) := ⟨_, _, rfl⟩
                            subst hro
                            dsimp only at e2 hrz hrn
                            obtain ⟨ne, hne⟩ : ∃ l, l = nm ++ E := ⟨_, rfl⟩
                            rw [← hne] at hrn
                            have c1 := hAt.nm o ne hrn
                            have c2 := hAt.nm j nm HJ.out.2.1
                            have hi : Two2 wr g6 o j (.string (mkS ne)) (.string (mkS nm)) := ⟨c1, c2⟩
                            obtain ⟨pv, hpv⟩ : ∃ p, p = P.getD o 0 := ⟨_, rfl⟩
                            have hpb : pv ≤ 600000000 := by rw [hpv]; exact H8.out.2.2.2.2 o
                            have hpo : P[o]? = some pv := by rw [hpv]; exact getD_some (by rw [H8.out.2.2.2.1]; exact hrz)
                            have HPo := hid hpo
                            clear hpo
                            have hnel : ne.length = nm.length + E.length := by rw [hne, List.length_append]
                            have hneb : ne.length ≤ 255 := H2.out.2.2.2.2.2.2.2.2.2.2.2.2 ne (List.mem_of_getElem? hrn)
                            have hsub : (mkS ne).extract nm.length ne.length = mkS E := by rw [mkS_dropX, hne, List.drop_left]
                            have hg6 : g6 < w4.heap.size := World.block_lt_of_cell? w4 _ (H5.out.1.nm j nm HJ.out.2.1)
                            have hstep := kids_step (P := P) (B1 := B0 ++ [y]) hr0
                            dsimp only at hstep
                            rw [← hL0, ← hpv] at hstep
                            obtain ⟨L1, hL1⟩ : ∃ L, L = L0 ++ E := ⟨_, rfl⟩
                            obtain ⟨L2, hL2⟩ : ∃ L, L = L1 ++ [0] := ⟨_, rfl⟩
                            obtain ⟨L3, hL3⟩ : ∃ L, L = L2 ++ putM pv := ⟨_, rfl⟩
                            rw [← hL1, ← hL2, ← hL3] at hstep
                            have hl0 : L0.length ≤ 600000000 := by rw [hL0]; exact hLb t
                            have hlp := putM_len pv
                            have b1 : L0.length + E.length ≤ 700000000 := by omega
                            have b2 : L1.length ≤ 700000000 := by rw [hL1, List.length_append]; omega
                            have b3 : L2.length ≤ 700000001 := by rw [hL2, List.length_append, List.length_singleton]; omega
                            have q2 : (t : Int) < (nn : Int) := by omega
                            have q3 : (o : Int) < (k : Int) := by omega
                            have q4 : (nm.length : Int) ≤ (ne.length : Int) := by omega
                            have HL := hid (And.intro hL1 (And.intro hL2 (And.intro hL3 hstep)))
                            have HT := hid (And.intro hRt hAt)
                            clear hL1 hL2 hL3 hstep hRt hAt hkt hr0 hrn hne hnel hpv hL0 hLb
                            go_wp2_with fail
                            go_region_held3 (fun W => W.cell? ⟨g6, o, none⟩ = some (.string (mkS ne)) ∧ W.cell? ⟨g6, j, none⟩ = some (.string (mkS nm)))
                              (first | exact ⟨hi.c1, hi.c2⟩ | exact ⟨(hi.alloc _).c1, (hi.alloc _).c2⟩)
                              (first
                                | (refine step_bytes HU.out.1 _ rfl (.tmp 196) (.tmp 206) _ rfl w4.heap.size (.slice t5a L0.length t5c) L0 rfl ?_ (.string (mkS E)) E rfl ?_ ?_ ?_ ?_; exact HT.out.1.outb.below (by repeat (first | exact Below.refl _ _ | refine below_drewX ?_ | refine below_drewNX ?_ _ | refine Below.alloc ?_ (by simp) _)); exact Src.ofMkS _ un_strX E; omega; exact Nat.le_trans HT.out.1.bel.size (bsz (by repeat (first | exact Below.refl _ _ | refine below_drewX ?_ | refine below_drewNX ?_ _ | refine Below.alloc ?_ (by simp) _))); intro v1 W1 ho1 hg1; rw [← HL.out.1] at ho1; obtain ⟨a1, p1', hv1⟩ := OB.form ho1; subst hv1; have hi : Two2 W1 g6 o j (.string (mkS ne)) (.string (mkS nm)) := (hi.next (by repeat (first | exact Below.refl _ _ | refine below_drewX ?_ | refine below_drewNX ?_ _ | refine Below.alloc ?_ (by simp) _))).grew hg1 (fun e => by have := HT.out.1.outb.high _ e; omega); have hR1 := HT.out.1.app (Grew.under (by repeat (first | exact Below.refl _ _ | refine below_drewX ?_ | refine below_drewNX ?_ _ | refine Below.alloc ?_ (by simp) _)) hg1) ho1; have H1b := hid (And.intro hR1 hg1); clear ho1 hg1 hR1)
                                | (refine step_bytes HU.out.1 _ rfl (.tmp 207) (.tmp 208) _ rfl w4.heap.size (.slice a1 L1.length p1') L1 rfl ?_ _ [0] rfl ?_ ?_ ?_ ?_; exact H1b.out.1.outb.below (by repeat (first | exact Below.refl _ _ | refine below_drewX ?_ | refine below_drewNX ?_ _ | refine Below.alloc ?_ (by simp) _)); (first | (refine Src.keptX (v := .slice none 0 0) 0 (Grew.refl _ _) ?_ ?_; (first | exact lit_cellYB _ _ _ (by simp) rfl | exact lit_cellYBD _ _ _ (by simp) rfl); (intro e; cases e)) | (refine Src.keptX 0 H1b.out.2 ?_ ?_; (first | exact lit_cellYB _ _ _ (by simp) rfl | exact lit_cellYBD _ _ _ (by simp) rfl); (intro e; have := HT.out.1.outb.lt _ e; omega))); (rw [List.length_singleton]; omega); exact Nat.le_trans H1b.out.1.bel.size (bsz (by repeat (first | exact Below.refl _ _ | refine below_drewX ?_ | refine below_drewNX ?_ _ | refine Below.alloc ?_ (by simp) _))); intro v2 W2 ho2 hg2; rw [← HL.out.2.1] at ho2; obtain ⟨a2, p2', hv2⟩ := OB.form ho2; subst hv2; have hi : Two2 W2 g6 o j (.string (mkS ne)) (.string (mkS nm)) := (hi.next (by repeat (first | exact Below.refl _ _ | refine below_drewX ?_ | refine below_drewNX ?_ _ | refine Below.alloc ?_ (by simp) _))).grew hg2 (fun e => by have := H1b.out.1.outb.high _ e; omega); have hR2 := H1b.out.1.app (Grew.under (by repeat (first | exact Below.refl _ _ | refine below_drewX ?_ | refine below_drewNX ?_ _ | refine Below.alloc ?_ (by simp) _)) hg2) ho2; have H2b := hid hR2; clear ho2 hg2 hR2)
                                | fail "no call")
                            all_goals
                              clear hi
                              obtain ⟨p1, -⟩ := owns_nat H2b.out.plc HPo.out
                              go_wp2_with fail
                              refine (ref_put' _ _ pv ?_ ?_).mono ?_
                              · first | rfl | exact IntWalk.u64_in _ (by omega)
                              · omega
                              rintro e W3 ⟨⟨a3, p3, rfl, ho3⟩, hb3⟩
                              have hR3 := H2b.out.next hb3
                              have HB3 := hid (And.intro hR3 ho3)
                              clear hR3 ho3 hb3 p1
                              go_wp2_with (at_builtin; refine wpList_bytes HU.out.1 _ rfl _ _ _ rfl w4.heap.size _ L2 rfl HB3.out.1.outb _ (putM pv) rfl (Src.ofBS un_bsX (HB3.out.2.bs (by omega))) ?_ ?_ ?_)
                              · omega
                              · exact HB3.out.1.bel.size
                              intro v9 W9b ho9 hg9
                              rw [← HL.out.2.2.1] at ho9
                              have hR9 := HB3.out.1.app hg9 ho9
                              have H13 := hid hR9
                              clear ho9 hg9 hR9
                              go_wp2_with fail
                              go_roundw
                              case rel => exact ⟨t + 1, by rw [← HC.out.2.2.2.1]; omega, by go_num, by rw [HL.out.2.2.2]; exact H13.out⟩
                              case measure => simp [intOf]; omega
                          · have htn' : t = nn := by omega
                            have HT := hid (And.intro hRt htn')
                            have hd : decide ((t : Int) < (nn : Int)) = false := by rw [decide_eq_false_iff_not]; omega
                            have hd' : decide (t < nn) = false := by rw [decide_eq_false_iff_not]; omega
                            clear hRt htn' hAt hkt hLb
                            go_wp2_with fail
                            go_roundw
                            case rel =>
                              refine ⟨j + 1, by omega, by go_num, rfl, ?_⟩
                              have e : outB (K.take (j + 1)) P = L0 := by rw [HC.out.2.2.2.2.2.2.2.1, hL0, HT.out.2, HC.out.2.2.2.1, List.take_length]
                              rw [e, ← HC.out.2.2.2.2.1]
                              exact HT.out.1
                            case measure => simp [intOf]; omega
                  · obtain rfl : j = k := by omega
                    have hKl := H5.out.2.2.2.1
                    obtain ⟨Q, hQ⟩ : ∃ q, q = nextP K P := ⟨_, rfl⟩
                    rw [mixQ_full (by rw [nextP_len, hKl]) (by simp), ← hQ, show outB (K.take j) P = outB K P by rw [← hKl, List.take_length]] at hRq
                    rw [show outB (K.take j) P = outB K P by rw [← hKl, List.take_length]] at hmm
                    have hQl : Q.length = j := by rw [hQ, nextP_len, hKl]
                    have hmb : mm ≤ 600000000 := by rw [hmm]; exact Nat.le_trans (outB_le P K) H2.out.2.2.2.1
                    obtain ⟨w9, hw9⟩ : ∃ w9, w9 = wr := ⟨_, rfl⟩
                    subst hw9
                    have HQ := hid (And.intro hRq (And.intro hQ (And.intro hmm hQl)))
                    clear hRq hQ hmm hQl hKl
                    go_wp2_with fail
                    go_loopw [18, 19] (fun v18 v19 wx => ∃ a : Nat, a ≤ j ∧ v19 = .int .i64 (a : Int) ∧ v18 = .bool (sameQ Q P a) ∧ Below w9.heap.size w9 wx) (fun _ v19 _ => j - (intOf v19).toNat)
                    case atStart => exact ⟨0, Nat.zero_le _, rfl, rfl, Below.refl _ _⟩
                    case round =>
                      obtain ⟨a, ha, rfl, rfl, hbk⟩ := hrel
                      have hRk := HQ.out.1.next hbk
                      have HS := hid (And.intro hRk hbk)
                      clear hbk
                      obtain ⟨sb, hsb⟩ : ∃ b, b = sameQ Q P a := ⟨_, rfl⟩
                      rw [← hsb]
                      by_cases haj : a < j
                      · obtain ⟨s1, -⟩ := owns_nat hRk.nxt (getD_some (show a < Q.length by rw [HQ.out.2.2.2]; exact haj))
                        obtain ⟨s2, -⟩ := owns_nat hRk.plc (getD_some (show a < P.length by rw [H8.out.2.2.2.1]; exact haj))
                        have hsu := sameQ_succ Q P a
                        rw [← hsb] at hsu
                        obtain ⟨qa, hqa⟩ : ∃ x, x = Q.getD a 0 := ⟨_, rfl⟩
                        obtain ⟨pa, hpa⟩ : ∃ x, x = P.getD a 0 := ⟨_, rfl⟩
                        rw [← hqa] at s1 hsu
                        rw [← hpa] at s2 hsu
                        have q1 : (a : Int) < (j : Int) := by omega
                        have Hs := hid hsu
                        clear hsu hqa hpa hRk hsb
                        cases sb with
                        | false =>
                          go_wp2_with fail
                          go_quiet (fail)
                          go_wp2_with fail
                          go_roundw
                          case rel => exact ⟨a + 1, by omega, by go_num, by rw [Hs.out]; rfl, below_drewNX HS.out.2 _⟩
                          case measure => simp [intOf]; omega
                        | true =>
                          obtain ⟨eb, heb⟩ : ∃ b, b = (qa == pa) := ⟨_, rfl⟩
                          have t1 : ((qa : Int) == (pa : Int)) = eb := by
                            rw [heb]
                            by_cases h : qa = pa
                            · rw [h]; simp
                            · rw [beq_eq_false_iff_ne.2 h, beq_eq_false_iff_ne]; omega
                          have He := hid heb
                          clear heb
                          go_wp2_with fail
                          go_quiet (fail)
                          go_wp2_with fail
                          go_roundw
                          case rel => exact ⟨a + 1, by omega, by go_num, by rw [Hs.out, He.out]; rfl, below_drewNX HS.out.2 _⟩
                          case measure => simp [intOf]; omega
                      · obtain rfl : a = j := by omega
                        have hall := sameQ_all (Q := Q) (P := P) HQ.out.2.2.2 H8.out.2.2.2.1
                        rw [← hsb] at hall
                        have hbel := HS.out.1.bel
                        have hbw := H5.out.2.1.trans (hbel.mono H5.out.2.1.size)
                        have Hz := hid (And.intro hall hbw)
                        clear hall hbel hbw hsb hRk
                        cases sb with
                        | false =>
                          go_wp2_with fail
                          go_roundg (leftP (capB K + 1) (iterP K (r + 1)))
                          case measure =>
                            rw [H8.out.2.2.1, H8.out.2.1]
                            refine iterP_left K r (fun e => ?_)
                            rw [← H8.out.2.1, ← HQ.out.2.1] at e
                            have := Hz.out.1.2 e
                            cases this
                          case rel =>
                            refine ⟨r + 1, g13, a, rfl, rfl, HS.out.1.bel, ?_⟩
                            have h1 := HS.out.1.nxt
                            rw [HQ.out.2.1, H8.out.2.1] at h1
                            exact h1
                        | true =>
                          have hQP := Hz.out.1.1 rfl
                          have hfix : Fix K P := ⟨r, H8.out.2.1, by rw [← HQ.out.2.1]; exact hQP⟩
                          have hPP : P = P0 := fix_one hfix H2.out.1
                          have hr := H2.out.2.2.2.2.1
                          rw [← hPP, ← HQ.out.2.2.1] at hr
                          have Hr := hid hr
                          clear hQP hfix hPP hr
                          by_cases hbig : 1048576 < mm
                          · have d1 : decide ((1048576 : Int) < (mm : Int)) = true := by rw [decide_eq_true_eq]; omega
                            have d2 : decide (1048576 < mm) = true := by rw [decide_eq_true_eq]; omega
                            have Hb := hid hbig
                            clear hbig
                            go_wp2_with fail
                            refine bodyPost_ret (v := .tuple #[.slice none 0 0, .int .i64 11]) (by simp [results, Tryz.results8, go_sem]) rfl ?_
                            refine makeEnd_none ?_ Hz.out.2
                            have hr := Hr.out
                            rw [if_pos Hb.out] at hr
                            exact hr
                          · have d1 : decide ((1048576 : Int) < (mm : Int)) = false := by rw [decide_eq_false_iff_not]; omega
                            have d2 : decide (1048576 < mm) = false := by rw [decide_eq_false_iff_not]; omega
                            have Hb := hid hbig
                            clear hbig
                            go_wp2_with fail
                            refine bodyPost_ret (v := .tuple #[.slice a12 mm c12, .int .i64 0]) (by simp [results, Tryz.results8, go_sem]) rfl ?_
                            have hr := Hr.out
                            rw [if_neg Hb.out] at hr
                            rw [hr]
                            refine ⟨⟨a12, c12, by rw [← HQ.out.2.2.1], ?_⟩, Hz.out.2⟩
                            have h1 := HS.out.1.outb
                            rw [HQ.out.2.2.1] at h1
                            exact h1.base H5.out.2.1.size
end Go.Proofs.YthhjdkcnkdffcaaGreat
