/- Package space: Read. -/
import Derived.Test.YtacmjpkcimjjpaaSpS
namespace Go.Proofs.Ytacmjpkcimjjpaa
set_option linter.unusedSimpArgs false
set_option linter.unusedVariables false
open Go.RowKit Go.Maps

theorem Try.infoByte : (Try.prog.info? 5).map (fun i => (i.zero, i.size, i.bytes)) = some (some (.int .u8 0), 1, 1) := by kernel_rfl
theorem u8row : ∃ i, U8Row Try.prog 102 5 i := by
  obtain ⟨i, hi, hz0, hz1, hz2⟩ := info_parts Try.infoByte
  exact ⟨i, un_bs8, hi, hz0, hz1, hz2⟩

def pgB (pgs : List Pg) (n : Nat) : List UInt8 := match pgAt pgs n with | some g => g.bytes | none => []

/-- What Read reads. -/
def rdM : Nat → List Pg → Nat → Nat → List UInt8
  | 0, _, _, _ => []
  | k + 1, pgs, a, z => if z = 0 then [] else ((pgB pgs (a / 4096)).drop (a % 4096)).take (min z (4096 - a % 4096)) ++ rdM k pgs (a + min z (4096 - a % 4096)) (z - min z (4096 - a % 4096))

theorem rdM_zero (k : Nat) (pgs : List Pg) (a : Nat) : rdM k pgs a 0 = [] := by cases k <;> rfl
theorem rdM_step {k a z c : Nat} {pgs : List Pg} (hz : 0 < z) (hc : c = min z (4096 - a % 4096)) : rdM (k + 1) pgs a z = ((pgB pgs (a / 4096)).drop (a % 4096)).take c ++ rdM k pgs (a + c) (z - c) := by
  rw [rdM, if_neg (by omega), ← hc]

def ReadEnd (w : World) (a z : Nat) (pgs : List Pg) (e : Ending) (w' : World) : Prop :=
  Below w.heap.size w w' ∧ ((lookE pgs a z 1 ≠ 0 ∧ e = .returned (.tuple #[.slice none 0 0, .int .i64 (lookE pgs a z 1)])) ∨
    (lookE pgs a z 1 = 0 ∧ ∃ p cap, e = .returned (.tuple #[.slice p z cap, .int .i64 0]) ∧ BS w' (.slice p z cap) (rdM z pgs a z)))

set_option maxRecDepth 8000 in
set_option maxHeartbeats 1000000 in
theorem sp_read (w : World) (s b a z : Nat) (pgs : List Pg) (h : SpAt w s b pgs) (hlen : pgs.length ≤ 8192) (ha : a < 2 ^ 64) (hz0 : 0 < z) (hz : z ≤ 1048576) :
    Calls Try.prog 51 #[.pointer (some ⟨s, 0, none⟩), .int .u64 (a : Int), .int .u64 (z : Int)] w (ReadEnd w a z pgs) := by
  have HL := hid (sp_look w s b a z 1 pgs h hlen ha (by omega) hz0)
  have hd1 : decide ((1048576 : Int) < (z : Int)) = false := by rw [decide_eq_false_iff_not]; omega
  obtain ⟨R, hR⟩ : ∃ R, R = lookE pgs a z 1 := ⟨_, rfl⟩
  rw [← hR] at HL
  have H := hid (And.intro h (And.intro hR (And.intro hz0 hz)))
  unfold ReadEnd
  rw [← hR]
  clear h hlen ha hz0 hz hR
  go_enter Try.func51, Try.ntmps51
  go_wp2_with fail
  refine HL.out.mono ?_
  rintro e w1 ⟨rfl, hb⟩
  by_cases h0 : R = 0
  · have hd : (R != 0) = false := by rw [h0]; rfl
    have hpl := lookE_has (pgs := pgs) (a := a) (z := z) (p := 1) (by rw [← H.out.2.1, h0]; decide) H.out.2.2.1
    have HH := hid (And.intro hb hpl)
    have HX := hid h0
    have H1 := hid (H.out.1.below hb)
    clear hb h0 hpl
    obtain ⟨i0, hi, hz0, hz1, hz2⟩ := info_parts Try.infoByte
    go_wp2_with (at_make; refine wpList_make_own _ rfl _ _ 102 rfl w1.heap.size 5 i0 _ 1 un_bs8 hi hz0 hz1 _ _ _ z rfl rfl (by omega) ?bytes ?maxLen ?base ?_)
    case bytes => rw [hz2]; have := H.out.2.2.2; omega
    case maxLen => have := H.out.2.2.2; simp only [maxLen]; omega
    case base => exact Nat.le_refl _
    intro w2 hown2 hg2
    have hst : OB w2 w1.heap.size 5 (.slice (some ⟨w1.heap.size, 0, none⟩) 0 z) [] := hown2
    have hb2 : Below w1.heap.size w1 w2 := ⟨hg2.os, hg2.tape, hg2.output, hg2.size, fun k hk => hg2.block k hk (by simp)⟩
    have HST := hid (And.intro hst hb2)
    clear hown2 hg2 hst hb2 hi hz0 hz1 hz2 i0
    obtain ⟨i0, hrow⟩ := u8row
    have HR := hid hrow
    clear hrow
    obtain ⟨T, hT⟩ : ∃ T, T = rdM z pgs a z := ⟨_, rfl⟩
    have HT := hid hT
    clear hT
    go_wp2_with fail
    go_loopw [9, 10] (fun bv i wr => ∃ (k j : Nat) (l : List UInt8), j ≤ z ∧ l.length = j ∧ i = .int .u64 ((z - j : Nat) : Int) ∧ OB wr w1.heap.size 5 bv l ∧ Below w1.heap.size w1 wr ∧ z - j ≤ k ∧ l ++ rdM k pgs (a + j) (z - j) = T) (fun _ i _ => (intOf i).toNat)
    case atStart => exact ⟨z, 0, [], Nat.zero_le _, rfl, rfl, HST.out.1, HST.out.2, Nat.le_refl _, by rw [HT.out]; rfl⟩
    case round =>
      obtain ⟨k, j, l, hj, hlj, rfl, hob, hb, hk, hrd⟩ := hrel
      obtain ⟨bp, bc, rfl⟩ := hob.form
      rw [hlj] at hob ⊢
      obtain ⟨L, hL⟩ : ∃ L, L = z - j := ⟨_, rfl⟩
      rw [← hL]
      have H2 := hid (H1.out.below hb)
      have c1 : wr.cell? ⟨s, 0, none⟩ = some (.map (some b)) := H2.out.row.cell 0
      have HB := hid (And.intro hob (And.intro hb (And.intro hk hrd)))
      have HL2 := hid (And.intro hL hlj)
      clear hob hb hk hrd hL hlj
      by_cases h0 : 0 < L
      · have hltz : decide ((0 : Int) < (L : Int)) = true := by rw [decide_eq_true_eq]; omega
        have hz20 := H.out.2.2.2
        have ha47 := HH.out.2.1
        have hL3 := HL2.out.1
        obtain ⟨A, hA⟩ : ∃ A, A = a + j := ⟨_, rfl⟩
        obtain ⟨f, hf⟩ : ∃ f, f = A / 4096 := ⟨_, rfl⟩
        obtain ⟨m, hm⟩ : ∃ m, m = A % 4096 := ⟨_, rfl⟩
        obtain ⟨c, hc⟩ : ∃ c, c = min L (4096 - m) := ⟨_, rfl⟩
        have hwj : IntKind.u64.wrap (j : Int) = (j : Int) := IntWalk.u64_in _ (by omega)
        have hwa : IntKind.u64.wrap ((a : Int) + (j : Int)) = (A : Int) := (IntWalk.u64_in _ (by omega)).trans (by omega)
        have hq1 : (A : Int) / 4096 = (f : Int) := by omega
        have hq2 : (A : Int) % 4096 = (m : Int) := by omega
        have hwf : IntKind.u64.wrap (f : Int) = (f : Int) := IntWalk.u64_in _ (by omega)
        have hwm : IntKind.u64.wrap (m : Int) = (m : Int) := IntWalk.u64_in _ (by omega)
        have hwml : IntKind.u64.wrap ((m : Int) + (L : Int)) = (m : Int) + (L : Int) := IntWalk.u64_in _ (by omega)
        have hlk := H2.out.look (n := f) (by omega)
        obtain ⟨q, hq⟩ : ∃ q, pgAt pgs f = some q := by
          rw [← Option.isSome_iff_exists]
          exact HH.out.2.2 f (by omega) (by omega)
        rw [hq] at hlk
        dsimp only [pageV] at hlk
        have hfp := fun w => field_page w q.blk q.prot
        obtain ⟨M, hM⟩ : ∃ M, M = m + c := ⟨_, rfl⟩
        have hsl := fun w => slice_arr2 w q.blk m M .u64 .u64 (by omega) (by omega) (by omega)
        rw [show M - m = c from by omega] at hsl
        have hite : (if (m : Int) + (L : Int) < 4096 then (m : Int) + (L : Int) else 4096) = (M : Int) := by split <;> omega
        have hmin := fun w : World => run_min_int2 (P := Try.prog) (w := w) #[22, 22] 22 .u64 .u64 4096 ((m : Int) + (L : Int))
        rw [hite] at hmin
        clear hite hM
        have hqb : BS wr (.slice (some ⟨q.blk, m, none⟩) c (4096 - m)) ((q.bytes.drop m).take c) := by
          obtain ⟨hqr, hql, -⟩ := H2.out.pages q (pgAt_mem hq).1
          have hb4 := bs_block hqr (by rw [hql]; decide)
          have := sub_bs hb4 (lo := m) (hi := m + c) (m := q.bytes.length) (by omega) (by omega) (by omega) (Nat.le_refl _)
          rw [hql, show m + c - m = c from by omega] at this
          have e : subA (some ⟨q.blk, 0, none⟩) m 4096 = some ⟨q.blk, m, none⟩ := by
            unfold subA
            rw [if_neg (by omega)]
            simp only [Option.map_some, Addr.add]
            split
            · rename_i h; subst h; rfl
            · simp
          rw [e] at this
          exact this
        have hyl : ((q.bytes.drop m).take c).length = c := hqb.len
        have Hqb := hid (And.intro hqb hyl)
        have Hx := hid (And.intro hA (And.intro hf (And.intro hm (And.intro hc (And.intro hq hL3)))))
        obtain ⟨J, hJ⟩ : ∃ J, J = j + c := ⟨_, rfl⟩
        have hwJ : IntKind.u64.wrap (J : Int) = (J : Int) := IntWalk.u64_in _ (by omega)
        obtain ⟨L', hL'⟩ : ∃ L', L' = z - J := ⟨_, rfl⟩
        have hwL : IntKind.u64.wrap ((z : Int) - (J : Int)) = (L' : Int) := (IntWalk.u64_in _ (by omega)).trans (by omega)
        have hle : j + c ≤ z := by omega
        have hcp : 0 < c := by omega
        have HJ := hid (And.intro hJ (And.intro hL' (And.intro hle hcp)))
        have h47 := hid (show l.length + ((q.bytes.drop m).take c).length ≤ 140737488355328 by rw [hyl, HL2.out.2]; omega)
        clear hA hf hm hc hq hL3 hz20 ha47 hJ hL' hqb hyl hle hcp
        go_wp2_with (at_builtin; go_loud (refine wpList_bytes HR.out _ rfl _ _ _ rfl w1.heap.size (.slice bp j bc) l rfl (HB.out.1) (.slice (some ⟨q.blk, m, none⟩) c (4096 - m)) ((q.bytes.drop m).take c) rfl ?src h47.out ?c4 ?_))
        case src => rw [Hqb.out.2]; exact Src.ofBS un_bs8 Hqb.out.1
        case c4 => exact HB.out.2.1.size
        intro v' w3 hown3 hgr3
        have hbl : Below w1.heap.size w1 w3 := HB.out.2.1.trans (hgr3.below HB.out.2.1.size HB.out.1.high)
        have hlJ : (l ++ (q.bytes.drop m).take c).length = J := by rw [List.length_append, Hqb.out.2, HL2.out.2]; exact HJ.out.1.symm
        obtain ⟨bp', bc', rfl⟩ := hown3.form
        rw [hlJ] at hown3 ⊢
        have hfin : OB w3 w1.heap.size 5 (.slice bp' J bc') (l ++ (q.bytes.drop m).take c) ∧ z - J ≤ k - 1 ∧ (l ++ (q.bytes.drop m).take c) ++ rdM (k - 1) pgs (a + J) (z - J) = T := by
          obtain ⟨e1, e2, e3, e4, e5, e6⟩ := Hx.out
          obtain ⟨j1, j2, j3, j4⟩ := HJ.out
          have hk2 := HB.out.2.2.1
          refine ⟨hown3, by omega, ?_⟩
          rw [← HB.out.2.2.2, ← e6]
          have hstep := rdM_step (k := k - 1) (a := a + j) (z := L) (c := c) (pgs := pgs) h0 (by rw [← e1, ← e3]; exact e4)
          rw [Nat.sub_add_cancel (by omega), ← e1, ← e2, ← e3] at hstep
          have hpb : pgB pgs f = q.bytes := by unfold pgB; rw [e5]
          rw [hpb] at hstep
          rw [← e1, hstep, List.append_assoc, show a + J = A + c from by omega, show z - J = L - c from by omega]
        have HN := hid (And.intro hfin (And.intro hbl hlJ))
        clear hown3 hgr3 hbl hlJ hfin
        go_wp2_with fail
        go_roundw
        case rel =>
          obtain ⟨j1, j2, j3, j4⟩ := HJ.out
          exact ⟨k - 1, J, _, by omega, HN.out.2.2, by rw [j2], HN.out.1.1, HN.out.2.1, HN.out.1.2.1, HN.out.1.2.2⟩
        case measure =>
          obtain ⟨j1, j2, j3, j4⟩ := HJ.out
          have := Hx.out.2.2.2.2.2
          simp [intOf]
          omega
      · have hltz : decide ((0 : Int) < (L : Int)) = false := by rw [decide_eq_false_iff_not]; omega
        have hjz : j = z := by have := HL2.out.1; omega
        have HF := hid hjz
        clear hjz
        go_wp2_with fail
        go_ret2
        refine ⟨HH.out.1.trans (HB.out.2.1.mono HH.out.1.size), .inr ⟨HX.out, bp, bc, by rw [HF.out]; rfl, ?_⟩⟩
        have h1 := HB.out.2.2.2
        rw [show z - j = 0 from by rw [HF.out]; omega, rdM_zero, List.append_nil] at h1
        have h2 := HB.out.1.bs (by rw [HL2.out.2, HF.out]; have := H.out.2.2.2; omega)
        rw [HF.out, h1, HT.out] at h2
        exact h2
  · have hd : (R != 0) = true := by rw [bne_iff_ne]; exact h0
    have HH := hid hb
    have HX := hid h0
    clear hb h0
    go_wp2_with fail
    go_ret2
    exact ⟨HH.out, .inl ⟨HX.out, rfl⟩⟩
end Go.Proofs.Ytacmjpkcimjjpaa
