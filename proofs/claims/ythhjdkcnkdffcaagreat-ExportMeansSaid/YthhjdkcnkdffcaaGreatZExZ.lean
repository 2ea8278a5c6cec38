/- The walk of ExportMeans. -/
import Derived.Test.YthhjdkcnkdffcaaGreatZExR
import Derived.Test.YthhjdkcnkdffcaaGreatZExK
import Derived.Test.YthhjdkcnkdffcaaGreatZOpen
import Derived.Test.YthhjdkcnkdffcaaGreatZQMake
import Derived.StillTailTactics
namespace Go.Proofs.YthhjdkcnkdffcaaGreat
set_option linter.unusedSimpArgs false
set_option linter.unusedVariables false
open Go.RowKit
attribute [local go_sem ↓] old_img old_simg old_cimg
attribute [local go_sem] big_img big_simg big_cimg
attribute [local go_sem] fullA_last setRow_last rowA_older

theorem at_back {x : Exp} {slide : Nat} (hm : mayX x = 0) (hk : x.kind = 1 ∨ x.kind = 4) (hs : slide < 18446744073709551616) : IntKind.u64.wrap ((atX x slide : Int) - (slide : Int)) = ((4096 + x.value : Nat) : Int) ∧ x.value < 4096 := by
  have hv : x.value < 4096 := by
    unfold mayX at hm
    rcases hk with hk | hk
    · rw [if_neg (by omega), if_pos hk] at hm
      split at hm
      · cases hm
      · omega
    · rw [if_pos hk] at hm
      split at hm
      · cases hm
      · omega
  refine ⟨?_, hv⟩
  unfold atX
  rw [if_pos hk]
  show (((4096 + slide + x.value) % 18446744073709551616 : Nat) - (slide : Int)) % 18446744073709551616 = _
  omega

/-- What stands behind export.All. -/
structure MeSt (w W : World) (p : Option Addr) (n d : Nat) (I : Array Value) (K : Nat) (t T N : List UInt8) (va : Value) (A : List Exp) : Prop where
  bs : BS W (.slice p n d) (zeroP ++ t ++ T ++ N)
  img : PlainI W I t.length T.length N.length
  box : W.heap[K]? = some (.cells I 38 (0, 0))
  es : ES W va A
  below : Below w.heap.size w W
theorem MeSt.next {w W W' : World} {p : Option Addr} {n d : Nat} {I : Array Value} {K : Nat} {t T N : List UInt8} {va : Value} {A : List Exp} (h : MeSt w W p n d I K t T N va A) (hb : Below W.heap.size W W') : MeSt w W' p n d I K t T N va A :=
  ⟨h.bs.below hb, h.img.below hb, (hb.block _ (Array.getElem?_eq_some_iff.1 h.box).1).trans h.box, h.es.below hb, h.below.trans (hb.mono h.below.size)⟩

/-- What is made of exports is told by rising names, or refused. -/
theorem all_made {l : List Exp} {t T N : List UInt8} {A : List Exp} (hS : allS t = (0, byNames l)) (hne : l ≠ []) (h : allX t T N = (A, 0)) : A = byNames l := by
  have ht : t ≠ [] := by
    intro e
    subst e
    have h1 := congrArg Prod.snd hS
    rw [show (allS []).2 = [] from byNames_nil] at h1
    have h2 := (byNames_perm l).length_eq
    rw [show byNames l = [] from h1.symm] at h2
    exact hne (List.eq_nil_of_length_eq_zero h2.symm)
  obtain ⟨-, h2, -⟩ := allX_ok h
  rw [← h2]
  unfold rawM
  rw [if_pos ht, hS]

theorem anyX_snoc {l : List Exp} {k : Nat} {x : Exp} (h : l[k]? = some x) (name : List UInt8) : (l.take (k + 1)).any (fun y => y.name == name) = ((l.take k).any (fun y => y.name == name) || (x.name == name)) := by
  rw [take_snoc h, List.any_append]
  simp
end Go.Proofs.YthhjdkcnkdffcaaGreat

namespace Go.Proofs.YthhjdkcnkdffcaaGreat
set_option linter.unusedSimpArgs false
set_option linter.unusedVariables false
open Go.RowKit
attribute [local go_sem ↓] old_img old_simg old_cimg old_sexp
attribute [local go_sem] big_img big_simg big_cimg big_sexp
attribute [local go_sem] fullA_last setRow_last rowA_older

set_option maxHeartbeats 8000000 in
set_option maxRecDepth 8000 in
theorem ex_law_means (w : World) (pl : Option Addr) (nl cl : Nat) (l : List Exp) (hl : EN w (.slice pl nl cl) l) (hin : ∀ x ∈ l, ExpIn x) (ps : Option Addr) (nn cs : Nat) (s : List Sym) (hs : Nl.SN w (.slice ps nn cs) s) (hsin : ∀ x ∈ s, Nl.SymIn x.sect x.val) (name : List UInt8) (slide : Nat) (hsl : slide < 18446744073709551616) :
    Calls Tryz.prog 5 #[.slice pl nl cl, .slice ps nn cs, .string (mkS name), .int .u64 (slide : Int)] w fun e w' => e = .returned (.bool true) ∧ Below w.heap.size w w' := by
  obtain ⟨a', c', he⟩ := hl.form
  cases he
  obtain rfl := hs.len.1
  by_cases hbig : 40 < l.length ∨ 40 < s.length ∨ 300 < name.length
  · have H := hid hbig
    clear hl hs hin hsin
    by_cases h1 : 40 < l.length
    · have d1 : decide ((40 : Int) < (l.length : Int)) = true := decide_eq_true (by omega)
      have d2 : decide (40 < l.length) = true := decide_eq_true h1
      go_enter Tryz.func5, Tryz.ntmps5
      go_wp2_with fail
      refine (ex_known _).mono ?_
      rintro e w1 ⟨rfl, hb1⟩
      have H1 := hid hb1
      clear hb1
      go_wp2_with fail
      go_ret
      exact ⟨rfl, H1.out⟩
    · have d1 : decide ((40 : Int) < (l.length : Int)) = false := decide_eq_false (by omega)
      have d2 : decide (40 < l.length) = false := decide_eq_false h1
      by_cases h2 : 40 < s.length
      · have d3 : decide ((40 : Int) < (s.length : Int)) = true := decide_eq_true (by omega)
        have d4 : decide (40 < s.length) = true := decide_eq_true h2
        go_enter Tryz.func5, Tryz.ntmps5
        go_wp2_with fail
        refine (ex_known _).mono ?_
        rintro e w1 ⟨rfl, hb1⟩
        have H1 := hid hb1
        clear hb1
        go_wp2_with fail
        go_ret
        exact ⟨rfl, H1.out⟩
      · have d3 : decide ((40 : Int) < (s.length : Int)) = false := decide_eq_false (by omega)
        have d4 : decide (40 < s.length) = false := decide_eq_false h2
        have d5 : decide ((300 : Int) < (name.length : Int)) = true := decide_eq_true (by have := H.out; omega)
        have d6 : decide (300 < name.length) = true := decide_eq_true (by have := H.out; omega)
        go_enter Tryz.func5, Tryz.ntmps5
        go_wp2_with fail
        refine (ex_known _).mono ?_
        rintro e w1 ⟨rfl, hb1⟩
        have H1 := hid hb1
        clear hb1
        go_wp2_with fail
        go_ret
        exact ⟨rfl, H1.out⟩
  have hl40 : l.length ≤ 40 := by omega
  have hs40 : s.length ≤ 40 := by omega
  have hn300 : name.length ≤ 300 := by omega
  have d1 : decide ((40 : Int) < (l.length : Int)) = false := decide_eq_false (by omega)
  have d2 : decide (40 < l.length) = false := decide_eq_false (by omega)
  have d3 : decide ((40 : Int) < (s.length : Int)) = false := decide_eq_false (by omega)
  have d4 : decide (40 < s.length) = false := decide_eq_false (by omega)
  have d5 : decide ((300 : Int) < (name.length : Int)) = false := decide_eq_false (by omega)
  have d6 : decide (300 < name.length) = false := decide_eq_false (by omega)
  have hes := hl.es (by omega)
  have hss := hs.ss (by omega)
  obtain ⟨t, z, htl, h0, hz0, -, hM⟩ := mk_spec l hin
  obtain ⟨T, N, er, hTN⟩ : ∃ T N er, Nl.makeM s = (T, N, er) := ⟨_, _, _, rfl⟩
  obtain ⟨hTl, hNl⟩ := Nl.makeM_len hTN (by omega)
  have hmk := fun (w0 : World) (hb : Below w.heap.size w w0) => Nl.ref_make w0 ps cs s (hss.below hb) (by omega) (fun x hx => (hsin x hx).2)
  rw [hTN] at hmk
  have H := hid (And.intro (hM w _ _ hes) (And.intro hmk (And.intro h0 (And.intro hz0 hes))))
  clear hl hs hin hsin hM hmk h0 hz0 hes hss hTN
  go_enter Tryz.func5, Tryz.ntmps5
  go_wp2_with fail
  refine H.out.1.mono ?_
  rintro e w1 ⟨⟨ta, tc, rfl, htb⟩, hb1⟩
  have H1 := hid (And.intro htb hb1)
  clear htb hb1 d1 d2 d3 d4 d5 d6
  go_wp2_with fail
  refine (H.out.2.1 _ H1.out.2).mono ?_
  rintro e w2 ⟨v1, v2, rfl, hT, hN, hb2⟩
  dsimp only at hT hN ⊢
  have hTb := hT.bs (by omega)
  have hNb := hN.bs (by omega)
  obtain ⟨pT, cT, rfl⟩ := hTb.form rfl
  obtain ⟨pN, cN, rfl⟩ := hNb.form rfl
  have H2 := hid (And.intro (H1.out.1.below hb2) (And.intro hTb (And.intro hNb (H1.out.2.trans (hb2.mono H1.out.2.size)))))
  clear hT hN hTb hNb hb2
  by_cases hzz : z ≠ 0
  · have dz : (z != 0) = true := by rw [bne_iff_ne]; exact hzz
    go_wp2_with fail
    refine (ex_known _).mono ?_
    rintro e w3 ⟨rfl, hb3⟩
    have H3 := hid (H2.out.2.2.2.trans (hb3.mono H2.out.2.2.2.size))
    clear hb3
    go_wp2_with fail
    go_ret
    exact ⟨rfl, H3.out⟩
  have hzz : z = 0 := by omega
  by_cases her : er ≠ 0
  · subst hzz
    have dz : ((er : Int) != 0) = true := by rw [bne_iff_ne]; omega
    go_wp2_with fail
    refine (ex_known _).mono ?_
    rintro e w3 ⟨rfl, hb3⟩
    have H3 := hid (H2.out.2.2.2.trans (hb3.mono H2.out.2.2.2.size))
    clear hb3
    go_wp2_with fail
    go_ret
    exact ⟨rfl, H3.out⟩
  have her : er = 0 := by omega
  subst hzz her
  rw [show ((0 : Nat) : Int) = (0 : Int) from rfl]
  obtain ⟨hS, hap, hshort⟩ := H.out.2.2.1 rfl
  have HS := hid (And.intro hS (And.intro hap hshort))
  clear hS hap hshort
  go_wp2_with fail
  refine (ex_plain_n w2 ta pT pN t.length T.length N.length tc cT cN t T N H2.out.1 H2.out.2.1 H2.out.2.2.1 (by omega) (by omega) (by omega)).mono ?_
  rintro e w3 ⟨p, n, d, I, rfl, hP⟩
  have hIok := hP.img.ok
  obtain ⟨W3, hW3⟩ : ∃ W, W = w3.alloc (.cells I 38) := ⟨_, rfl⟩
  have b3 : Below w3.heap.size w3 W3 := by rw [hW3]; exact (Below.refl _ _).alloc (Nat.le_refl _) _
  have hK : W3.heap[w3.heap.size]? = some (.cells I 38 (0, 0)) := by rw [hW3]; exact heap_alloc_new w3 _
  have hst : MeSt w W3 p n d I w3.heap.size t T N (.slice none 0 0) [] :=
    ⟨hP.bytes.below b3, hP.img.below b3, hK, ES.nil _, (H2.out.2.2.2.trans (hP.below.mono H2.out.2.2.2.size)).trans (b3.mono (Nat.le_trans H2.out.2.2.2.size hP.below.size))⟩
  have hn := hP.few
  obtain ⟨K, hKe⟩ : ∃ K, K = w3.heap.size := ⟨_, rfl⟩
  rw [← hKe] at hst hK
  have H3 := hid hst
  have hrow := rowA_block hK hIok.1
  clear hP b3 hK hst
  go_upto_region 8 with fail
  rw [← hW3, ← hKe]
  clear hW3 hKe
  go_wp2_with fail
  refine (ex_all _ p n d I t T N H3.out.bs H3.out.img hn (fun _ => by rw [HS.out.1])).mono ?_
  rintro e w4 ⟨va, rfl, hva, hb4⟩
  obtain ⟨⟨A, ee⟩, hA⟩ : ∃ r, r = allX t T N := ⟨_, rfl⟩
  rw [← hA] at hva ⊢
  dsimp only at hva ⊢
  have hst4 : MeSt w w4 p n d I K t T N va A := ⟨(H3.out.next hb4).bs, (H3.out.next hb4).img, (H3.out.next hb4).box, hva, (H3.out.next hb4).below⟩
  have hrow4 := rowA_block hst4.box hIok.1
  have H4 := hid hst4
  have HA := hid hA
  clear hva hb4 hst4 hrow hA
  obtain ⟨qa, ca, rfl⟩ := H4.out.es.form
  go_wp2_with fail
  refine (rx_all _ p n d I t T N H4.out.bs H4.out.img hn).mono ?_
  rintro e w5 ⟨vb, rfl, hvb, hb5⟩
  rw [← HA.out] at hvb ⊢
  dsimp only at hvb ⊢
  obtain ⟨qb, cb, rfl⟩ := hvb.form
  have dne : ((ee : Int) != (ee : Int)) = false := by simp
  have H5 := hid (And.intro (H4.out.next hb5) hvb)
  clear hvb hb5 hrow4
  go_wp2_with fail
  refine (ref_same _ _ _ A H5.out.1.es H5.out.2).mono ?_
  rintro e w6 ⟨rfl, q6, rfl⟩
  obtain ⟨W6, hW6⟩ : ∃ W, W = w5.drewN q6 := ⟨_, rfl⟩
  have hb6 : Below w5.heap.size w5 W6 := by rw [hW6]; exact below_drewNX (Below.refl _ _) _
  rw [← hW6]
  have H6 := hid (H5.out.1.next hb6)
  clear hW6 hb6
  by_cases hee : ee ≠ 0
  · have e1 : ((ee : Int) == 0) = false := by rw [beq_eq_false_iff_ne]; omega
    have e2 : ((ee : Int) != 0) = true := by rw [bne_iff_ne]; omega
    by_cases hl0 : 0 < l.length
    · have f1 : decide ((0 : Int) < (l.length : Int)) = true := decide_eq_true (by omega)
      have f2 : decide (0 < l.length) = true := decide_eq_true hl0
      go_wp2_with fail
      refine (ex_known _).mono ?_
      rintro e w7 ⟨rfl, hb7⟩
      have H7 := hid (H6.out.below.trans (hb7.mono H6.out.below.size))
      clear hb7
      go_wp2_with fail
      go_ret
      exact ⟨rfl, H7.out⟩
    · have f1 : decide ((0 : Int) < (l.length : Int)) = false := decide_eq_false (by omega)
      have f2 : decide (0 < l.length) = false := decide_eq_false hl0
      go_wp2_with fail
      refine (ex_known _).mono ?_
      rintro e w7 ⟨rfl, hb7⟩
      have H7 := hid (H6.out.below.trans (hb7.mono H6.out.below.size))
      clear hb7
      go_wp2_with fail
      go_ret
      exact ⟨rfl, H7.out⟩
  have hee : ee = 0 := by omega
  subst hee
  go_upto_region 12 with fail
  go_cut [102] (fun t102 wx => t102 = .bool false ∧ Below W6.heap.size W6 wx)
  case first =>
    by_cases hl0 : 0 < l.length
    · have f1 : decide ((0 : Int) < (l.length : Int)) = true := decide_eq_true (by omega)
      have f2 : decide (0 < l.length) = true := decide_eq_true hl0
      have hne : l ≠ [] := fun e => by rw [e] at hl0; simp at hl0
      have hAl := all_made HS.out.1 hne HA.out.symm
      have hso := ref_sorted l.length W6 _ l (H.out.2.2.2.2.below H6.out.below) (by omega) (by omega)
      rw [sortedR_is HS.out.2.1 (by omega), ← hAl] at hso
      have HO := hid hso
      clear hso hne hAl
      go_wp2_with fail
      refine HO.out.mono ?_
      rintro e w7 ⟨v7, rfl, hown7, hb7⟩
      have hes7 := ES.of_owns hown7 (H5.out.2.len)
      obtain ⟨q7, c7, rfl⟩ := hes7.form
      have H7 := hid (And.intro (H6.out.next hb7) (And.intro hes7 hb7))
      clear hown7 hb7 hes7
      go_wp2_with fail
      refine (ref_same _ _ _ A H7.out.1.es H7.out.2.1).mono ?_
      rintro e w8 ⟨rfl, q8, rfl⟩
      go_wp2_with fail
      go_meet
      exact ⟨rfl, below_drewNX H7.out.2.2 _⟩
    · have f1 : decide ((0 : Int) < (l.length : Int)) = false := decide_eq_false (by omega)
      have f2 : decide (0 < l.length) = false := decide_eq_false hl0
      go_wp2_with fail
      go_meet
      exact ⟨rfl, Below.refl _ _⟩
  case rest =>
    rename World => w9
    obtain ⟨rfl, hb9⟩ := hcut
    have H9 := hid (H6.out.next hb9)
    have hAok := allX_ok HA.out.symm
    have hAl := H5.out.2.len
    clear hb9
    have hfewA : A.length ≤ 4096 := by rw [← hAok.2.1]; exact raw_few t T N
    go_wp2_with fail
    go_loopw [20, 21] (fun t20 t21 wr => ∃ k : Nat, k ≤ A.length ∧ t21 = .int .i64 (k : Int) ∧ t20 = .bool ((A.take k).any (fun y => y.name == name)) ∧ Below w9.heap.size w9 wr) (fun _ i _ => A.length - (intOf i).toNat)
    case atStart => exact ⟨0, Nat.zero_le _, rfl, rfl, Below.refl _ _⟩
    case round =>
      obtain ⟨k, hk, rfl, rfl, hbr⟩ := hrel
      obtain ⟨tb, htb⟩ : ∃ b, b = (A.take k).any (fun y => y.name == name) := ⟨_, rfl⟩
      rw [← htb]
      have hst := H9.out.next hbr
      have hzr := hbr.size
      by_cases hlt : k < A.length
      · have Htb := hid htb
        clear htb
        obtain ⟨x, hx⟩ : ∃ x, A[k]? = some x := ⟨_, List.getElem?_eq_getElem hlt⟩
        have hmx := hAok.2.2 x (List.mem_of_getElem? hx)
        have hfx := findX_at HA.out.symm (List.mem_of_getElem? hx)
        have hfo : t ≠ [] → (findT t x.name).2.2 = 0 := fun ht => by
          have h1 : x ∈ (allS t).2 := by
            have h2 := hAok.2.1
            unfold rawM at h2
            rw [if_pos ht] at h2
            have h3 : (allS t).2 = A := h2
            rw [h3]
            exact List.mem_of_getElem? hx
          rw [finds_at (by rw [HS.out.1]) h1 (finds_short h1)]
        obtain ⟨g, off, hqa, x0, x1, x2, x3, x4, x5, x6⟩ := hst.es.at hx
        have hgl : g < wr.heap.size := World.block_lt_of_cell? wr _ x0
        have hKl := (Array.getElem?_eq_some_iff.1 hst.box).1
        have hrowr := rowA_block hst.box hIok.1
        have q1 : (0 : Int) ≤ (k : Int) := by omega
        have q2 : (k : Int) < (A.length : Int) := by omega
        have hok := expOk x
        unfold Exp.cells at hok
        have hcl : ∀ w0 : World, Below wr.heap.size wr w0 → Calls Tryz.prog 11 #[.slice p n d, .agg I, .string (mkS x.name)] w0 fun e w' => e = .returned (.tuple #[.agg #[.string (mkS x.name), .int .i64 x.kind, .bool x.weak, .int .u64 (x.value : Int), .int .u64 (x.resolver : Int), .int .u64 (x.ordinal : Int), .string (mkS x.other)], .bool true, .int .i64 0]) ∧ Below w0.heap.size w0 w' := by
          intro w0 hb0
          refine (ex_find _ p n d I t T N x.name (hst.next hb0).bs (hst.next hb0).img hn hfo).mono ?_
          rintro e w7 ⟨rfl, hb7⟩
          rw [hfx]
          exact ⟨rfl, hb7⟩
        have HX := hid (And.intro hx (And.intro hmx (And.intro hcl (And.intro hcl (And.intro hst hbr)))))
        clear hx hmx hfx hfo hst hbr hcl
        subst hqa
        go_upto_region 20 with fail
        go_cut [22, 23, 24] (fun t22 t23 t24 wx => ∃ K2, t22 = .pointer (some ⟨K2, 0, none⟩) ∧ t23 = .bool true ∧ t24 = .int .i64 0 ∧ Below wr.heap.size wr wx ∧ wx.heap[K2]? = some (.cells x.cells.toArray 25 (0, 0)))
        case first =>
          go_region_with (first
            | (go_at_call 11; (with_reducible refine (HX.out.2.2.1 _ (below_drewP ((Below.refl _ _).alloc (Nat.le_refl _) _))).mono ?_); rintro e w7 ⟨rfl, hb7⟩; have hk7 := (hb7.block wr.heap.size (by simp)).trans (heap_alloc_new wr _); have hf7 := fullA_block hk7 (n := 7) rfl; have HB := hid (And.intro ((below_drewP ((Below.refl wr.heap.size wr).alloc (Nat.le_refl _) (.cells #[.string ⟨#[]⟩, .int .i64 0, .bool false, .int .u64 0, .int .u64 0, .int .u64 0, .string ⟨#[]⟩] 25))).trans (hb7.mono (by simp))) hk7); clear hb7 hk7)
            | (go_at_call 11; (with_reducible refine (HX.out.2.2.1 _ (below_drewP (Below.refl _ _))).mono ?_); rintro e w7 ⟨rfl, hb7⟩; have HB := hid ((below_drewP (Below.refl wr.heap.size wr)).trans hb7); clear hb7)
            | fail "no call")
          all_goals
            simp [Act.put]
            go_wp2_with fail
            go_meet
            first
              | exact ⟨_, rfl, rfl, rfl, HB.out.alloc HB.out.size _, heap_alloc_new w7 _⟩
              | exact ⟨_, rfl, rfl, rfl, Below.setRow HB.out.1 (Nat.le_refl _) _, setRow_block HB.out.2⟩
        case rest =>
          rename World => w8
          obtain ⟨K2, rfl, rfl, rfl, hb8, hk8⟩ := hcut
          have hst8 := HX.out.2.2.2.2.1.next hb8
          obtain ⟨c0, c1, c2, c3, c4, c5, c6⟩ := exp_at x rfl hk8
          have y0 := (hb8.cell (p := ⟨g, off + k * 7, none⟩) hgl).trans x0
          have y1 := (hb8.cell (p := ⟨g, off + k * 7 + 1, none⟩) hgl).trans x1
          have y2 := (hb8.cell (p := ⟨g, off + k * 7 + 2, none⟩) hgl).trans x2
          have y3 := (hb8.cell (p := ⟨g, off + k * 7 + 3, none⟩) hgl).trans x3
          have y4 := (hb8.cell (p := ⟨g, off + k * 7 + 4, none⟩) hgl).trans x4
          have y5 := (hb8.cell (p := ⟨g, off + k * 7 + 5, none⟩) hgl).trans x5
          have y6 := (hb8.cell (p := ⟨g, off + k * 7 + 6, none⟩) hgl).trans x6
          have H8 := hid (And.intro hst8 (And.intro hb8 hk8))
          clear hst8 hb8 hk8 x0 x1 x2 x3 x4 x5 x6 hrowr hok
          go_upto_region 21 with fail
          go_cut [137] (fun t137 wx => t137 = .bool false ∧ ∃ q, wx = w8.drewN q)
          case first =>
            go_wp2_with fail
            go_quiet (fail)
            go_wp2_with fail
            go_meet
            exact ⟨rfl, _, rfl⟩
          case rest =>
            obtain ⟨rfl, q21, hwc⟩ := hcut
            rename World => w10
            have hb10 : Below w8.heap.size w8 w10 := by rw [hwc]; exact below_drewNX (Below.refl _ _) _
            have hst10 := H8.out.1.next hb10
            have hk10 : w10.heap[K2]? = some (.cells x.cells.toArray 25 (0, 0)) := (hb10.block _ (Array.getElem?_eq_some_iff.1 H8.out.2.2).1).trans H8.out.2.2
            have hrow10 := rowA_block hst10.box hIok.1
            have hcl := ex_at w10 I _ _ _ x slide hst10.img
            obtain ⟨d0, d1, d2, d3, d4, d5, d6⟩ := exp_at x rfl hk10
            have H10 := hid (And.intro hst10 (And.intro hk10 (And.intro (H8.out.2.1.trans (hb10.mono H8.out.2.1.size)) hcl)))
            unfold Exp.cells at H10
            clear hst10 hk10 hb10 hwc hcl c0 c1 c2 c3 c4 c5 c6 y0 y1 y2 y3 y4 y5 y6
            go_wp2_with fail
            refine H10.out.2.2.2.mono ?_
            rintro e w11 ⟨rfl, hb11⟩
            have hk11 : w11.heap[K2]? = some (.cells x.cells.toArray 25 (0, 0)) := (hb11.block _ (Array.getElem?_eq_some_iff.1 H10.out.2.1).1).trans H10.out.2.1
            obtain ⟨e0, e1, e2, e3, e4, e5, e6⟩ := exp_at x rfl hk11
            have H11 := hid (H10.out.2.2.1.trans (hb11.mono H10.out.2.2.1.size))
            clear hb11 hk11 d0 d1 d2 d3 d4 d5 d6 hrow10
            obtain ⟨nb, hnb⟩ : ∃ b, b = (x.name == name) := ⟨_, rfl⟩
            have hsnoc := anyX_snoc HX.out.1 name
            rw [← Htb.out, ← hnb] at hsnoc
            have Hnb := hid hsnoc
            have dnb : (x.name == name) = nb := hnb.symm
            clear hnb hsnoc
            by_cases hk14 : x.kind = 1 ∨ x.kind = 4
            · obtain ⟨hat, hvl⟩ := at_back (slide := slide) HX.out.2.1 hk14 hsl
              have g1 : decide (((4096 + x.value : Nat) : Int) < 4096) = false := decide_eq_false (by omega)
              have g2 : decide ((8192 : Int) ≤ ((4096 + x.value : Nat) : Int)) = false := decide_eq_false (by omega)
              obtain ⟨V, hV⟩ : ∃ V, V = 4096 + x.value := ⟨_, rfl⟩
              rw [← hV] at hat g1 g2
              have g3 : decide (V < 4096) = false := decide_eq_false (by omega)
              have g4 : decide (8192 ≤ V) = false := decide_eq_false (by omega)
              clear hV hvl
              cases tb with
              | true =>
                rcases hk14 with hk1 | hk4
                · have b1 : (x.kind == 1) = true := by rw [beq_iff_eq]; exact hk1
                  clear hk1
                  go_wp2_with fail
                  go_roundw
                  case rel => exact ⟨k + 1, by omega, by go_num, by rw [Hnb.out]; rfl, HX.out.2.2.2.2.2.trans (H11.out.mono hzr)⟩
                  case measure => simp [intOf]; omega
                · have b1 : (x.kind == 1) = false := by rw [beq_eq_false_iff_ne, hk4]; decide
                  have b2 : (x.kind == 4) = true := by rw [beq_iff_eq]; exact hk4
                  clear hk4
                  go_wp2_with fail
                  go_roundw
                  case rel => exact ⟨k + 1, by omega, by go_num, by rw [Hnb.out]; rfl, HX.out.2.2.2.2.2.trans (H11.out.mono hzr)⟩
                  case measure => simp [intOf]; omega
              | false =>
                rcases hk14 with hk1 | hk4
                · have b1 : (x.kind == 1) = true := by rw [beq_iff_eq]; exact hk1
                  clear hk1
                  go_wp2_with fail
                  go_roundw
                  case rel => exact ⟨k + 1, by omega, by go_num, by rw [Hnb.out]; rfl, HX.out.2.2.2.2.2.trans (H11.out.mono hzr)⟩
                  case measure => simp [intOf]; omega
                · have b1 : (x.kind == 1) = false := by rw [beq_eq_false_iff_ne, hk4]; decide
                  have b2 : (x.kind == 4) = true := by rw [beq_iff_eq]; exact hk4
                  clear hk4
                  go_wp2_with fail
                  go_roundw
                  case rel => exact ⟨k + 1, by omega, by go_num, by rw [Hnb.out]; rfl, HX.out.2.2.2.2.2.trans (H11.out.mono hzr)⟩
                  case measure => simp [intOf]; omega
            · have b1 : (x.kind == 1) = false := by rw [beq_eq_false_iff_ne]; omega
              have b2 : (x.kind == 4) = false := by rw [beq_eq_false_iff_ne]; omega
              clear hk14
              cases tb with
              | true =>
                go_wp2_with fail
                go_roundw
                case rel => exact ⟨k + 1, by omega, by go_num, by rw [Hnb.out]; rfl, HX.out.2.2.2.2.2.trans (H11.out.mono hzr)⟩
                case measure => simp [intOf]; omega
              | false =>
                go_wp2_with fail
                go_roundw
                case rel => exact ⟨k + 1, by omega, by go_num, by rw [Hnb.out]; rfl, HX.out.2.2.2.2.2.trans (H11.out.mono hzr)⟩
                case measure => simp [intOf]; omega
      · obtain rfl : k = A.length := by omega
        rw [List.take_length] at htb
        have hrowr := rowA_block hst.box hIok.1
        have HR := hid (And.intro hst (And.intro htb hbr))
        clear hst htb hbr
        by_cases h255 : 255 < name.length
        · have f1 : decide ((255 : Int) < (name.length : Int)) = true := decide_eq_true (by omega)
          have f2 : decide (255 < name.length) = true := decide_eq_true h255
          go_wp2_with fail
          refine (ex_known _).mono ?_
          rintro e w7 ⟨rfl, hb7⟩
          have H7 := hid (HR.out.1.below.trans (hb7.mono HR.out.1.below.size))
          clear hb7
          go_wp2_with fail
          go_ret
          exact ⟨rfl, H7.out⟩
        · have f1 : decide ((255 : Int) < (name.length : Int)) = false := decide_eq_false (by omega)
          have f2 : decide (255 < name.length) = false := decide_eq_false h255
          have hfi := findX_is HA.out.symm (show name.length ≤ 255 by omega)
          have hfo : t ≠ [] → (findT t name).2.2 = 0 := fun _ => by
            have := finds_is (l := t) (name := name) (by rw [HS.out.1]) (show name.length ≤ 255 by omega)
            rw [this]
          have HF := hid (And.intro hfi hfo)
          clear hfi hfo
          go_wp2_with fail
          refine (ex_find _ p n d I t T N name HR.out.1.bs HR.out.1.img hn HF.out.2).mono ?_
          rintro e w7 ⟨rfl, hb7⟩
          rw [HF.out.1]
          have H7 := hid (HR.out.1.below.trans (hb7.mono HR.out.1.below.size))
          rw [← HR.out.2.1]
          dsimp only
          clear hb7
          generalize (findX t T N name).1 = F
          obtain ⟨fn, fk, fw, fv, fr, fo, ft⟩ := F
          have hokF := expOk ⟨fn, fk, fw, fv, fr, fo, ft⟩
          simp only [Exp.cells] at hokF ⊢
          have dtt : (tb == tb) = true := by simp
          go_wp2_with fail
          refine (ex_known _).mono ?_
          rintro e w8 ⟨rfl, hb8⟩
          have H8 := hid ((H7.out.alloc H7.out.size (.cells #[.string (mkS fn), .int .i64 fk, .bool fw, .int .u64 (fv : Int), .int .u64 (fr : Int), .int .u64 (fo : Int), .string (mkS ft)] 25)).trans (hb8.mono (by have := H7.out.size; simp; omega)))
          clear hb8
          go_wp2_with fail
          go_ret
          exact ⟨rfl, H8.out⟩
end Go.Proofs.YthhjdkcnkdffcaaGreat
