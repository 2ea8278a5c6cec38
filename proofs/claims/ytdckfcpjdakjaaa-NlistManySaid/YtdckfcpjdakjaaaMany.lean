/- The walk of NlistMany. -/
import Derived.Test.YtdckfcpjdakjaaaMakes
import Derived.Test.YtdckfcpjdakjaaaManyM
namespace Go.Proofs.Ytdckfcpjdakjaaa
set_option linter.unusedSimpArgs false
set_option linter.unusedVariables false
open Go.RowKit Go.Maps

/-- Cells that were just laid, as what is appended. -/
theorem Src.laid {P : Program} (w : World) {size : Nat} {tx e' t : TypeId} (hk : P.underlying tx = some (.slice e')) (news : List Value) (m : Nat) (hl : news.length = m * size) (h1 : ∀ u ∈ news, u.oneCell' = true) (fr : Nat × Nat) {B : Nat} (hB : w.heap.size = B) :
    Src P size tx (.slice (some ⟨B, 0, none⟩) m m) m news (w.alloc (.cells news.toArray t fr)) := by
  subst hB
  refine Src.ofSlice _ hk _ m m news hl (fun j x hx => ?_) h1
  have ea : (⟨w.heap.size, 0, none⟩ : Addr).add j = ⟨w.heap.size, j, none⟩ := by unfold Addr.add; split <;> simp_all
  rw [ea, cell_of_row _ _ j _ _ _ (heap_alloc_new w _)]
  simpa using hx

theorem OB.take {w : World} {base : Nat} {e : TypeId} {a : Option Addr} {n c k : Nat} {l : List UInt8} (h : OB w base e (.slice a n c) l) (hk : k ≤ n) (hn : 0 < n) : OB w base e (.slice a k c) (l.take k) := by
  have hl : l.length = n := by
    obtain ⟨a', c', h'⟩ := h.form
    cases h'; rfl
  subst hl
  refine ⟨by simp [u8s], .inr ?_⟩
  rcases h.2 with ⟨h1, h2⟩ | ⟨g, cap, cur, h1, hb, hg, hnc, hcm, hcs, htake⟩
  · omega
  · cases h1
    refine ⟨g, c, cur, ?_, hb, hg, ?_, hcm, hcs, ?_⟩
    · rw [List.length_take, Nat.min_eq_left hk]
    · rw [List.length_take]; omega
    · rw [List.length_take, Nat.min_eq_left hk, Nat.mul_one]
      have h3 : (u8s l).take k = u8s (l.take k) := by simp [u8s, List.map_take]
      rw [← h3, ← htake, List.take_take, Nat.mul_one, Nat.min_eq_left hk]

structure SymRow (P : Program) (t e : TypeId) (i : TypeInfo) (z0 : Value) : Prop where
  un : P.underlying t = some (.slice e)
  hi : P.info? e = some i
  z : i.zero = some z0
  size : i.size = 4
  bytes : i.bytes = 40
  zs : z0.cells.size = 4

theorem symrow : ∃ i z, SymRow Try.prog 24 30 i z := by
  obtain ⟨i0, hi, hz0, hz1, hz2⟩ := info_parts Try.infoSym
  exact ⟨i0, _, un_syms, hi, hz0, hz1, hz2, rfl⟩

/-- What holds at the head of each round. -/
structure MnRel (w wr : World) (lv tv nv : Value) (k : Nat) (T N : List UInt8) : Prop where
  below : Below w.heap.size w wr
  eq : tabN (listI k) = (T, N)
  own : wr.ownsRow w.heap.size 30 4 lv k (symsCells (listI k))
  tab : OB wr w.heap.size 5 tv T
  nam : OB wr w.heap.size 5 nv N
  lt : Apart lv tv
  ln : Apart lv nv
  tn : Apart tv nv

def MnAt (w wr : World) (n : Nat) (lv tv nv i : Value) : Prop := ∃ (k : Nat) (T N : List UInt8), k ≤ n ∧ i = .int .i64 (k : Int) ∧ MnRel w wr lv tv nv k T N

theorem MnRel.lens {w wr : World} {lv tv nv : Value} {k : Nat} {T N : List UInt8} (R : MnRel w wr lv tv nv k T N) : T.length = 16 * k ∧ N.length = 3 * k + 1 := by
  have h1 := tab_len k
  have h2 := names_len k
  rw [R.eq] at h1 h2
  exact ⟨h1, h2⟩

theorem name_laid (w : World) {k : Nat} (hk : k < 4100) : (convert 23 9 (.slice (some ⟨w.heap.size, 0, none⟩) 2 2)).run Try.prog (w.alloc (.cells #[.int .u8 (97 + (k : Int) % 64), .int .u8 (97 + (k : Int) / 64)] 5)) =
    .ok (.string (mkS (symI k).name)) (w.alloc (.cells #[.int .u8 (97 + (k : Int) % 64), .int .u8 (97 + (k : Int) / 64)] 5)) := by
  obtain ⟨a1, a2⟩ := symI_bytes hk
  have e : u8s (symI k).name = [.int .u8 (97 + (k : Int) % 64), .int .u8 (97 + (k : Int) / 64)] := by
    simp only [u8s, symI, List.map_cons, List.map_nil, a1, a2]
    congr 2
  have hb := BS.laid w (symI k).name 5 (show 2 ≤ 140737488355328 by omega)
  rw [e] at hb
  exact run_toString (P := Try.prog) _ _ _ un_bs8 un_u8 un_str hb

theorem entry_lit (w : World) (q : Nat) (x : Int) (hx : x = (q : Int)) (hq : q < 2 ^ 63) :
    Calls Try.prog 18 #[.int .i64 x, .int .i64 3, .int .i64 0, .int .i64 0, .int .u64 0] w fun e w' => ∃ v', e = .returned v' ∧ OB w' w.heap.size 5 v' (entryB q 3 0 0 0) ∧ Below w.heap.size w w' := by
  subst hx
  exact ref_entry w q 3 0 0 0 hq (by omega) (by omega) (by omega) (by omega)

set_option maxRecDepth 100000 in
set_option maxHeartbeats 4000000 in
theorem nlist_many (w : World) (many twice : Int) :
    Calls Try.prog 7 #[.int .i64 many, .int .i64 twice] w fun e w' => e = .returned (.bool true) ∧ Below w.heap.size w w' := by
  by_cases h1 : many < 4090
  · go_enter Try.func7, Try.ntmps7
    go_wp2_with fail
    refine (nl_known _).mono ?_
    rintro e w5 ⟨rfl, hb5⟩
    have H5 := hid hb5
    clear hb5
    go_wp2
    go_ret
    exact ⟨rfl, H5.out⟩
  by_cases h2 : 4100 < many
  · go_enter Try.func7, Try.ntmps7
    go_wp2_with fail
    refine (nl_known _).mono ?_
    rintro e w5 ⟨rfl, hb5⟩
    have H5 := hid hb5
    clear hb5
    go_wp2
    go_ret
    exact ⟨rfl, H5.out⟩
  obtain ⟨n, rfl⟩ : ∃ n : Nat, many = n := ⟨many.toNat, by omega⟩
  have hn1 : 4090 ≤ n := by omega
  have hn2 : n ≤ 4100 := by omega
  obtain ⟨i, R⟩ := u8row
  obtain ⟨ie, z, E⟩ := symrow
  have H := hid (And.intro R E)
  have d1 : decide ((n : Int) < 4090) = false := decide_eq_false h1
  have d2 : decide (4100 < (n : Int)) = false := decide_eq_false h2
  clear R E h1 h2
  go_enter Try.func7, Try.ntmps7
  go_wp2_with fail
  go_loopw [5, 6, 7, 8] (fun lv tv nv i wr => MnAt w wr n lv tv nv i) (fun _ _ _ i _ => n - (intOf i).toNat)
  case atStart =>
    refine ⟨0, [], [0], Nat.zero_le _, rfl, (Below.refl _ _).alloc (Nat.le_refl _) _, rfl, World.ownsRow_nil _ _ _ _, OB.nil _ _ _, OB.laid w [0] (by decide), Apart.nil _, Apart.nil _, Apart.nil _⟩
  case round =>
    obtain ⟨k, T, N, hk, rfl, R⟩ := hrel
    have hsz := R.below.size
    have HL := hid R.lens
    have hTl : T.length ≤ 65600 := by have := HL.out; omega
    have hNl : N.length ≤ 12301 := by have := HL.out; omega
    obtain ⟨na, nc, rfl⟩ := R.nam.form
    have HR := hid R
    clear R
    by_cases hlt : k < n
    · have hm0 : 0 ≤ (k : Int) % 64 := by omega
      have hm1 : (k : Int) % 64 ≤ 63 := by omega
      have hd0 : 0 ≤ (k : Int) / 64 := by omega
      have hd1 : (k : Int) / 64 ≤ 64 := by omega
      have hkw : IntKind.u64.wrap (k : Int) = k := IntWalk.u64_in _ (by omega)
      have kcv := name_laid wr (k := k) (by omega)
      obtain ⟨nm, hnm⟩ : ∃ nm, nm = (symI k).name := ⟨_, rfl⟩
      rw [← hnm] at kcv
      have hnl2 : nm.length ≤ 2 := by rw [hnm]; exact Nat.le_refl 2
      have Hnm := hid hnm
      clear hnm
      have hsrc : Src Try.prog 4 24 (.slice (some ⟨wr.heap.size + 1, 0, none⟩) 1 1) 1 (Sym.mk nm 0 k false).cells ((wr.alloc (.cells #[.int .u8 (97 + (k : Int) % 64), .int .u8 (97 + (k : Int) / 64)] 5)).alloc (.cells #[.string (mkS nm), .int .i64 0, .int .u64 (k : Int), .bool false] 30)) :=
        Src.laid _ un_syms (Sym.mk nm 0 k false).cells 1 rfl (by simp [Sym.cells, Value.oneCell']) (0, 0) (by simp)
      have Hs := hid hsrc
      clear hsrc
      go_wp2_with (at_builtin; refine wpList_append_grew _ rfl _ _ _ _ rfl w.heap.size 30 ie z 4 40 H.out.2.un H.out.2.hi H.out.2.z H.out.2.size H.out.2.bytes H.out.2.zs _ k (symsCells (listI k)) rfl (ownsRow_below HR.out.own (((Below.refl _ _).alloc (Nat.le_refl _) _).alloc (by simp) _)) _ 1 (Sym.mk nm 0 k false).cells rfl Hs.out ?c3 ?c4 ?c5 ?_)
      case c3 => exact Nat.le_trans (show k + 1 ≤ 5000 by omega) (by decide)
      case c4 => omega
      case c5 => simp; omega
      intro lv1 W1 hl1 hg1
      have hg1 : Grew wr W1 u5 lv1 := Grew.under (((Below.refl _ _).alloc (Nat.le_refl _) _).alloc (by simp) _) hg1
      have hz1 := hg1.size
      have ht1 := hg1.own HR.out.tab HR.out.lt.symm
      have hn1' := hg1.own HR.out.nam HR.out.ln.symm
      have hlt1 := (hg1.apart HR.out.tab HR.out.lt.symm).symm
      have hln1 := (hg1.apart HR.out.nam HR.out.ln.symm).symm
      have hb1 := HR.out.below.trans (hg1.below hsz (fun k hk => (HR.out.own.lt k hk).1))
      have H1 := hid (And.intro hl1 (And.intro ht1 (And.intro hn1' (And.intro hlt1 (And.intro hln1 hb1)))))
      clear hl1 hg1 ht1 hn1' hlt1 hln1 hb1 kcv
      go_wp2_with fail
      refine (ref_entry W1 N.length 3 0 0 k (by omega) (by omega) (by omega) (by omega) (by omega)).mono ?_
      rintro e W2 ⟨ve, rfl, hown2, hb2⟩
      have hz2 := hb2.size
      obtain ⟨ae, ce, hve⟩ := hown2.form
      rw [entryB_length] at hve
      subst hve
      have hsrc : Src Try.prog 1 23 (.slice ae 16 ce) (entryB N.length 3 0 0 k).length (u8s (entryB N.length 3 0 0 k)) W2 := by
        rw [entryB_length]; exact Src.ofBS un_bsE (hown2.bs (by rw [entryB_length]; omega))
      have H2 := hid (And.intro (OB.below H1.out.2.1 hb2) (And.intro hsrc hb2))
      clear hown2 hb2 hsrc
      go_wp2_with (at_builtin; refine wpList_bytes H.out.1 _ rfl _ _ _ rfl w.heap.size _ T rfl H2.out.1 _ (entryB N.length 3 0 0 k) rfl H2.out.2.1 ?d3 ?d4 ?_)
      case d3 => rw [entryB_length]; omega
      case d4 => omega
      intro tv3 W3 ht3 hg3
      have hz3 := hg3.size
      have hl2 := ownsRow_below H1.out.1 H2.out.2.2
      have hn2' := OB.below H1.out.2.2.1 H2.out.2.2
      have hl3 := hg3.own hl2 H1.out.2.2.2.1
      have hn3 := hg3.own hn2' HR.out.tn.symm
      have hlt3 := hg3.apart hl2 H1.out.2.2.2.1
      have hnt3 := hg3.apart hn2' HR.out.tn.symm
      have hb3 := (H1.out.2.2.2.2.2.trans (H2.out.2.2.mono (by omega : w.heap.size ≤ W1.heap.size))).trans (hg3.below (by omega) (OB.high HR.out.tab))
      have H3 := hid (And.intro ht3 (And.intro hl3 (And.intro hn3 (And.intro hlt3 (And.intro hnt3 hb3)))))
      clear ht3 hg3 hl2 hn2' hl3 hn3 hlt3 hnt3 hb3
      go_wp2_with (at_builtin; refine wpList_bytes H.out.1 _ rfl _ _ _ rfl w.heap.size _ N rfl H3.out.2.2.1 _ nm rfl (Src.ofMkS _ un_str nm) ?e3 ?e4 ?_)
      case e3 => omega
      case e4 => omega
      intro nv4 W4 hn4 hg4
      have hz4 := hg4.size
      obtain ⟨a4, c4, rfl⟩ : ∃ a c, nv4 = .slice a (N.length + nm.length) c := by obtain ⟨a, c, h⟩ := hn4.form; exact ⟨a, c, by rw [h, List.length_append]⟩
      have hl4 := hg4.own H3.out.2.1 H1.out.2.2.2.2.1
      have ht4 := hg4.own H3.out.1 H3.out.2.2.2.2.1.symm
      have hln4 := hg4.apart H3.out.2.1 H1.out.2.2.2.2.1
      have htn4 := hg4.apart H3.out.1 H3.out.2.2.2.2.1.symm
      have hb4 := H3.out.2.2.2.2.2.trans (hg4.below (by omega) (OB.high H3.out.2.2.1))
      have H4 := hid (And.intro hn4 (And.intro hl4 (And.intro ht4 (And.intro hln4 (And.intro htn4 hb4)))))
      clear hn4 hg4 hl4 ht4 hln4 htn4 hb4
      go_wp2_with (at_builtin; refine wpList_bytes H.out.1 _ rfl _ _ _ rfl w.heap.size _ _ rfl (H4.out.1.below ((Below.refl _ _).alloc (Nat.le_refl _) _)) _ [0] rfl (Src.byte W4 un_bsE 0 0 rfl _) ?f3 ?f4 ?_)
      case f3 => simp; omega
      case f4 => simp; omega
      intro nv5 W5 hn5 hg5
      have hg5 : Grew W4 W5 _ nv5 := hg5.under ((Below.refl _ _).alloc (Nat.le_refl _) _)
      have hz5 := hg5.size
      have H5 := hid (And.intro hn5 hg5)
      clear hn5 hg5
      go_wp2_with fail
      have h5 := H5.out
      refine ⟨⟨k + 1, T ++ entryB N.length 3 0 0 k, N ++ nm ++ [0], by omega, by go_num, ⟨?_, ?_, ?_, ?_, ?_, ?_, ?_, ?_⟩⟩, by simp [intOf]; omega⟩
      · exact H4.out.2.2.2.2.2.trans (h5.2.below (by omega) H4.out.1.high)
      · rw [listI_succ, tabN_snoc, HR.out.eq, Hnm.out]
        rfl
      · rw [listI_succ, symsCells_snoc]
        have : (symI k).cells = (Sym.mk nm 0 k false).cells := by rw [Hnm.out]; rfl
        rw [this]
        exact h5.2.own H4.out.2.1 H4.out.2.2.2.1
      · exact h5.2.own H4.out.2.2.1 H4.out.2.2.2.2.1
      · have := h5.1
        simpa using this
      · exact H3.out.2.2.2.1
      · exact h5.2.apart H4.out.2.1 H4.out.2.2.2.1
      · exact h5.2.apart H4.out.2.2.1 H4.out.2.2.2.2.1
    · obtain rfl : k = n := by omega
      obtain ⟨la, lc, rfl⟩ := ownsRow_form HR.out.own
      obtain ⟨ta, tc, rfl⟩ := HR.out.tab.form
      have hss := SS.of_owns (by rw [listI_length]; exact HR.out.own) (by rw [listI_length]; omega)
      have hmk := make_many hn2
      obtain ⟨MT, MN, er, hM⟩ : ∃ MT MN er, makeM (listI k) = (MT, MN, er) := ⟨_, _, _, rfl⟩
      rw [hM] at hmk
      have HM := hid (And.intro hM (And.intro hmk hss))
      clear hM hmk hss
      obtain ⟨wo, hwo⟩ : ∃ wo : World, wo = wr := ⟨_, rfl⟩
      rw [← hwo] at HR HM hsz ⊢
      clear hwo
      go_wp2_with fail
      have hc := nl_make wo la lc (listI k) (by rw [listI_length]; exact HM.out.2.2) (by rw [listI_length]; omega) (fun s hs => (listI_ok hn2 s hs).2.1)
      rw [HM.out.1, listI_length] at hc
      refine hc.mono ?_
      clear hc
      rintro e w1 ⟨v1, v2, rfl, ho1, ho2, hb1⟩
      simp only at ho1 ho2
      have hz1 := hb1.size
      obtain ⟨a1, c1, rfl⟩ := ho1.form
      obtain ⟨a2, c2, rfl⟩ := ho2.form
      have H1 := hid hb1
      clear ho1 ho2 hb1
      have hall : k ≤ 4096 → tableM T N 0 = (listI k, 0) := fun h => by have := table_many h; rwa [HR.out.eq] at this
      have hover : 4096 < k → tableM T N 0 = ([], 11) := fun h => by have := table_over h hn2; rwa [HR.out.eq] at this
      have HA := hid (And.intro hall hover)
      clear hall hover
      have hbT := (OB.below HR.out.tab H1.out).bs (by omega)
      have hbN := (OB.below HR.out.nam H1.out).bs (by omega)
      have HB := hid (And.intro hbT hbN)
      clear hbT hbN
      by_cases h4 : 4096 < k
      · obtain rfl : er = 11 := by rw [HM.out.2.1, if_pos h4]
        have d4 : decide (4096 < (k : Int)) = true := decide_eq_true (by omega)
        simp only
        go_wp2_with fail
        have hc := nl_all w1 _ _ _ _ _ _ T N 0 HB.out.1 HB.out.2
        rw [HA.out.2 h4] at hc
        refine hc.mono ?_
        clear hc
        rintro e w2 ⟨v3, rfl, hown2, hb2⟩
        simp only at hown2
        obtain ⟨a3, c3, rfl⟩ := ownsRow_form hown2
        have H2 := hid (HR.out.below.trans ((H1.out.trans (hb2.mono hz1)).mono hsz))
        clear hown2 hb2
        simp only [List.length_nil]
        go_wp2_with fail
        refine (nl_known _).mono ?_
        rintro e w8 ⟨rfl, hb8⟩
        have H8 := hid (H2.out.trans (hb8.mono H2.out.size))
        clear hb8
        go_wp2
        go_ret
        exact ⟨rfl, H8.out⟩
      · obtain rfl : er = 0 := by rw [HM.out.2.1, if_neg h4]
        have d4 : decide (4096 < (k : Int)) = false := decide_eq_false (by omega)
        simp only
        go_wp2_with fail
        have hc := nl_all w1 _ _ _ _ _ _ T N 0 HB.out.1 HB.out.2
        rw [HA.out.1 (by omega)] at hc
        refine hc.mono ?_
        clear hc
        rintro e w2 ⟨v3, rfl, hown2, hb2⟩
        simp only at hown2
        obtain ⟨a3, c3, rfl⟩ := ownsRow_form hown2
        have hz2 := hb2.size
        have H2 := hid (And.intro (SS.of_owns hown2 (by rw [listI_length]; omega)) (And.intro ((HM.out.2.2.below H1.out).below hb2) (And.intro (OB.below (OB.below HR.out.tab H1.out) hb2) (And.intro (OB.below (OB.below HR.out.nam H1.out) hb2) (HR.out.below.trans ((H1.out.trans (hb2.mono hz1)).mono hsz))))))
        clear hown2 hb2
        have hb02 := H2.out.2.2.2.2.size
        simp only [listI_length]
        go_wp2_with fail
        have hc := ref_same w2 _ _ (listI k) H2.out.1 H2.out.2.1
        rw [listI_length] at hc
        refine hc.mono ?_
        clear hc
        rintro e w3 ⟨rfl, q3, rfl⟩
        by_cases t1 : twice < 0
        · go_wp2_with fail
          refine (nl_known _).mono ?_
          rintro e w8 ⟨rfl, hb8⟩
          have H8 := hid ((below_drewN H2.out.2.2.2.2 q3).trans (hb8.mono hb02))
          clear hb8
          go_wp2
          go_ret
          exact ⟨rfl, H8.out⟩
        by_cases t2 : (k : Int) ≤ twice
        · go_wp2_with fail
          refine (nl_known _).mono ?_
          rintro e w8 ⟨rfl, hb8⟩
          have H8 := hid ((below_drewN H2.out.2.2.2.2 q3).trans (hb8.mono hb02))
          clear hb8
          go_wp2
          go_ret
          exact ⟨rfl, H8.out⟩
        obtain ⟨tw, rfl⟩ : ∃ t : Nat, twice = t := ⟨twice.toNat, by omega⟩
        have htw : tw < k := by omega
        obtain ⟨q, hq⟩ : ∃ q : Nat, q = 3 * tw + 1 := ⟨_, rfl⟩
        have hqi : 1 + 3 * (tw : Int) = (q : Int) := by omega
        have hqb : q ≤ 12300 := by omega
        have hsl := fun (w : World) => run_subh (P := Try.prog) (w := w) (t := 23) ta T.length tc un_bs (sz_u8 w) .i64 (16 * ((k : Int) - 1)) (by omega) (by have h1 := HL.out; have h2 := HB.out.1.cap; omega)
        simp only [show (16 * ((k : Int) - 1)).toNat = 16 * (k - 1) from by omega] at hsl
        have ht0 := OB.take H2.out.2.2.1 (k := 16 * (k - 1)) (by have := HL.out; omega) (by have := HL.out; omega)
        have htk : T.take (16 * (k - 1)) = (tabN (listI (k - 1))).1 := by
          obtain ⟨r, hr⟩ := listI_tab (show k - 1 ≤ k by omega)
          rw [HR.out.eq] at hr
          simp only at hr
          rw [hr, List.take_append_of_le_length (by rw [tab_len]; omega), List.take_of_length_le (by rw [tab_len]; omega)]
        rw [htk] at ht0
        have ht0 : OB (w2.drewN q3) w.heap.size 5 (.slice ta (16 * (k - 1)) tc) (tabN (listI (k - 1))).1 := ht0
        obtain ⟨T1, hT1⟩ : ∃ T1, T1 = (tabN (listI (k - 1))).1 := ⟨_, rfl⟩
        rw [← hT1] at ht0
        have hT1l : T1.length ≤ 65600 := by rw [hT1, tab_len]; omega
        have HT := hid (And.intro hT1 (And.intro ht0 hq))
        clear hT1 ht0 htk hq
        have hw1 : IntKind.i64.wrap ((k : Int) - 1) = (k : Int) - 1 := IntWalk.i64_in _ (by omega)
        have hw2 : IntKind.i64.wrap (16 * ((k : Int) - 1)) = 16 * ((k : Int) - 1) := IntWalk.i64_in _ (by omega)
        have hw3 : IntKind.i64.wrap (3 * (tw : Int)) = 3 * (tw : Int) := IntWalk.i64_in _ (by omega)
        have hw4 : IntKind.i64.wrap (1 + 3 * (tw : Int)) = (q : Int) := by rw [← hqi]; exact IntWalk.i64_in _ (by omega)
        have hqw : IntKind.i64.wrap (q : Int) = q := IntWalk.i64_in _ (by omega)
        go_wp2_with fail
        go_region_held3 (fun _ => True) (trivial)
          (first
            | (go_at_call 18; (with_reducible refine (entry_lit _ q _ (by first | assumption | rfl) (by omega)).mono ?_); rintro e W4 ⟨ve, rfl, howne, hb4⟩; obtain ⟨ae, ce, hve⟩ := howne.form; rw [entryB_length] at hve; subst hve; have hsrc : Src Try.prog 1 23 (.slice ae 16 ce) (entryB q 3 0 0 0).length (u8s (entryB q 3 0 0 0)) W4 := (by rw [entryB_length]; exact Src.ofBS un_bsE (howne.bs (by rw [entryB_length]; omega))); have hz4 : w.heap.size ≤ W4.heap.size := Nat.le_trans hb02 hb4.size; have H4 := hid (And.intro (OB.below (show OB (w2.drewN (q3 + 1)) w.heap.size 5 (.slice ta (16 * (k - 1)) tc) T1 from HT.out.2.1) hb4) (And.intro hsrc hb4)); clear howne hb4 hsrc)
            | (refine step_bytes H.out.1 _ (by rfl) _ _ _ (by rfl) w.heap.size _ T1 (by rfl) H4.out.1 _ (entryB q 3 0 0 0) (by rfl) H4.out.2.1 (by rw [entryB_length]; omega) hz4 ?_; intro v5 W5 hown5 hg5)
            | fail "no call")
        obtain ⟨a5, c5, rfl⟩ : ∃ a c, v5 = .slice a (T1.length + 16) c := by obtain ⟨a, c, h⟩ := OB.form hown5; exact ⟨a, c, by rw [h, List.length_append, entryB_length]⟩
        have hbN4 : OB W4 w.heap.size 5 (.slice na N.length nc) N := OB.below (show OB (w2.drewN (q3 + 1)) w.heap.size 5 (.slice na N.length nc) N from H2.out.2.2.2.1) H4.out.2.2
        have hap : Apart (.slice na N.length nc) (.slice ta (16 * (k - 1)) tc) := by
          have := HR.out.tn.symm
          cases ta <;> exact this
        have hbN5 := hg5.own hbN4 hap
        have hb5 : Below w.heap.size w W5 := ((below_drewN H2.out.2.2.2.2 (q3 + 1)).trans (H4.out.2.2.mono hb02)).trans (hg5.below hz4 (OB.high H4.out.1))
        have hz5 := hb5.size
        have hT5 := OB.bs hown5 (by rw [List.length_append, entryB_length]; omega)
        have hN5 := OB.bs hbN5 (by omega)
        have H5 := hid (And.intro hT5 (And.intro hN5 hb5))
        clear hown5 hg5 hbN4 hap hbN5 hb5 hT5 hN5
        have htt := table_twice (n := k) (i := tw) (by omega) (by omega) htw
        rw [← HT.out.1, ← HT.out.2.2] at htt
        have hNe : (tabN (listI k)).2 = N := by rw [HR.out.eq]
        rw [hNe] at htt
        clear hNe
        obtain ⟨M3, hM3⟩ : ∃ M3, M3 = tableM (T1 ++ entryB q 3 0 0 0) N 0 := ⟨_, rfl⟩
        rw [← hM3] at htt
        obtain ⟨L3, e3⟩ := M3
        have H3 := hid (And.intro hM3 htt)
        clear hM3 htt hw1 hw2 hw3 hw4 hqw hqi hsl
        go_wp2_with fail
        have hc := nl_all W5 _ _ _ _ _ _ (T1 ++ entryB q 3 0 0 0) N 0 H5.out.1 H5.out.2.1
        rw [← H3.out.1] at hc
        refine hc.mono ?_
        clear hc
        rintro e w6 ⟨v6, rfl, hown6, hb6⟩
        simp only at hown6
        obtain ⟨a6, c6, rfl⟩ := ownsRow_form hown6
        have H6 := hid (H5.out.2.2.trans (hb6.mono hz5))
        clear hown6 hb6
        simp only
        by_cases hl : tw < k - 1
        · obtain rfl : e3 = 21 := by have := H3.out.2; rw [if_pos hl] at this; exact this
          have d5 : decide ((tw : Int) < (k : Int) - 1) = true := decide_eq_true (by omega)
          go_wp2_with fail
          refine (nl_known _).mono ?_
          rintro e w8 ⟨rfl, hb8⟩
          have H8 := hid (H6.out.trans (hb8.mono H6.out.size))
          clear hb8
          go_wp2
          go_ret
          exact ⟨rfl, H8.out⟩
        · obtain rfl : e3 = 0 := by have := H3.out.2; rw [if_neg hl] at this; exact this
          have d5 : decide ((tw : Int) < (k : Int) - 1) = false := decide_eq_false (by omega)
          go_wp2_with fail
          refine (nl_known _).mono ?_
          rintro e w8 ⟨rfl, hb8⟩
          have H8 := hid (H6.out.trans (hb8.mono H6.out.size))
          clear hb8
          go_wp2
          go_ret
          exact ⟨rfl, H8.out⟩

end Go.Proofs.Ytdckfcpjdakjaaa
