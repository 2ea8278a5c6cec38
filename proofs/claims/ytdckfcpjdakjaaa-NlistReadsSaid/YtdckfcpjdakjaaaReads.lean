/- The walk of the law NlistReads. -/
import Derived.Test.YtdckfcpjdakjaaaKnown
import Derived.Test.YtdckfcpjdakjaaaFind
import Derived.Test.YtdckfcpjdakjaaaAppend
namespace Go.Proofs.Ytdckfcpjdakjaaa
set_option linter.unusedSimpArgs false
set_option linter.unusedVariables false
open Go.RowKit Go.Maps

/-- The names that a table tells stand apart. -/
theorem allM_apart (names : List UInt8) (sections : Int) : ∀ (n : Nat) (t : List UInt8) (out : List Sym), out.Pairwise (fun a b => a.name ≠ b.name) → (allM names sections n t out).1.Pairwise (fun a b => a.name ≠ b.name)
  | 0, _, out, h => h
  | n + 1, t, out, h => by
    unfold allM
    cases hE : entryM (t.take 16) names sections with
    | none => exact allM_apart names sections n _ out h
    | some r =>
      obtain ⟨e, s⟩ := r
      dsimp only
      by_cases he : e ≠ 0
      · rw [if_pos he]; exact List.Pairwise.nil
      · rw [if_neg he]
        by_cases h1 : out.any (fun x => x.name == s.name) = true
        · rw [if_pos h1]; exact List.Pairwise.nil
        · rw [if_neg h1]
          by_cases h2 : out.length = 4096
          · rw [if_pos h2]; exact List.Pairwise.nil
          · rw [if_neg h2]
            refine allM_apart names sections n _ _ (List.pairwise_append.2 ⟨h, by simp, fun a ha b hb => ?_⟩)
            simp at hb; subst hb
            intro hab
            exact h1 (List.any_eq_true.2 ⟨a, ha, by simp [hab]⟩)

theorem tableM_apart (table names : List UInt8) (sections : Int) : (tableM table names sections).1.Pairwise (fun a b => a.name ≠ b.name) := by
  unfold tableM; split
  · exact List.Pairwise.nil
  · exact allM_apart _ _ _ _ _ List.Pairwise.nil

theorem apart_eq {l : List Sym} (h : l.Pairwise (fun a b => a.name ≠ b.name)) {i j : Nat} {a b : Sym} (hi : l[i]? = some a) (hj : l[j]? = some b) (he : a.name = b.name) : i = j := by
  obtain ⟨hi', rfl⟩ := List.getElem?_eq_some_iff.1 hi
  obtain ⟨hj', rfl⟩ := List.getElem?_eq_some_iff.1 hj
  rcases Nat.lt_trichotomy i j with hlt | heq | hgt
  · exact absurd he (List.pairwise_iff_getElem.1 h i j hi' hj' hlt)
  · exact heq
  · exact absurd he.symm (List.pairwise_iff_getElem.1 h j i hj' hi' hgt)

/-- The one of a name: where it stands. -/
theorem posM_of {l : List Sym} (h : l.Pairwise (fun a b => a.name ≠ b.name)) {nl : List UInt8} {i : Nat} {a : Sym} (hi : l[i]? = some a) (ha : a.name = nl) : posM l nl = i := by
  have hi' := (List.getElem?_eq_some_iff.1 hi).1
  have hlt : posM l nl < l.length := List.findIdx_lt_length_of_exists ⟨a, List.mem_of_getElem? hi, by simp [ha]⟩
  have hp : (l[posM l nl]'hlt).name = nl := by
    have := List.findIdx_getElem (p := fun s : Sym => s.name == nl) (xs := l) (w := hlt)
    exact eq_of_beq this
  exact apart_eq h (List.getElem?_eq_getElem hlt) hi (by rw [hp, ha])

theorem findM_err (r : List Sym × Nat) (nl : List UInt8) : (findM r nl).2.2 = r.2 := by
  unfold findM
  by_cases h : r.2 ≠ 0
  · rw [if_pos h]
  · rw [if_neg h]
    have h0 : r.2 = 0 := by omega
    cases r.1[posM r.1 nl]? <;> exact h0.symm

theorem findM_yes {r : List Sym × Nat} {nl : List UInt8} {s : Sym} (h0 : r.2 = 0) (hs : r.1[posM r.1 nl]? = some s) : findM r nl = (s, true, 0) := by
  unfold findM; rw [if_neg (by omega), hs]

theorem findM_no {r : List Sym × Nat} {nl : List UInt8} (hs : r.1.length ≤ posM r.1 nl) : (findM r nl).1 = Sym.zero ∧ (findM r nl).2.1 = false := by
  unfold findM
  by_cases h : r.2 ≠ 0
  · rw [if_pos h]; exact ⟨rfl, rfl⟩
  · rw [if_neg h, List.getElem?_eq_none hs]; exact ⟨rfl, rfl⟩

theorem Try.infoU8 : (Try.prog.info? 5).map (fun i => (i.zero, i.size, i.bytes)) = some (some (.int .u8 0), 1, 1) := by kernel_rfl

set_option maxRecDepth 100000 in
set_option maxHeartbeats 4000000 in
theorem nl_reads (w : World) (p q : Option Addr) (n cap k capk : Nat) (sections : Int) (nl : List UInt8)
    (ht : n ≤ 140737488355328 → ∃ l, BS w (.slice p n cap) l) (hn : k ≤ 140737488355328 → ∃ l, BS w (.slice q k capk) l) :
    Calls Try.prog 4 #[.slice p n cap, .slice q k capk, .int .i64 sections, .string (mkS nl)] w fun e w' => e = .returned (.bool true) ∧ Below w.heap.size w w' := by
  by_cases h1 : 5000 < n
  · clear ht hn
    go_enter Try.func4, Try.ntmps4
    go_wp2_with fail
    refine (nl_known _).mono ?_
    rintro e w5 ⟨rfl, hb5⟩
    have H5 := hid hb5
    clear hb5
    go_wp2
    go_ret
    exact ⟨rfl, H5.out⟩
  by_cases h2 : 5000 < k
  · clear ht hn
    go_enter Try.func4, Try.ntmps4
    go_wp2_with fail
    refine (nl_known _).mono ?_
    rintro e w5 ⟨rfl, hb5⟩
    have H5 := hid hb5
    clear hb5
    go_wp2
    go_ret
    exact ⟨rfl, H5.out⟩
  by_cases h3 : 300 < nl.length
  · clear ht hn
    go_enter Try.func4, Try.ntmps4
    go_wp2_with fail
    refine (nl_known _).mono ?_
    rintro e w5 ⟨rfl, hb5⟩
    have H5 := hid hb5
    clear hb5
    go_wp2
    go_ret
    exact ⟨rfl, H5.out⟩
  obtain ⟨table, htb⟩ := ht (by omega)
  obtain ⟨names, hnm⟩ := hn (by omega)
  obtain ⟨i0, hi, hz0, hz1, hz2⟩ := info_parts Try.infoU8
  have Hi := hid (And.intro hi (And.intro hz0 (And.intro hz1 hz2)))
  have H := hid (And.intro htb hnm)
  clear ht hn hi hz0 hz1 hz2 htb hnm
  go_enter Try.func4, Try.ntmps4
  go_wp2_with (at_builtin; refine wpList_append_src _ rfl _ _ 23 23 rfl w.heap.size 5 i0 _ 1 1 un_bs8 Hi.out.1 Hi.out.2.1 Hi.out.2.2.1 Hi.out.2.2.2 rfl _ 0 [] rfl (World.ownsRow_nil _ _ _ _) _ n (u8s table) rfl (Src.ofBS un_bs8 H.out.1) ?c3 ?c4 (Nat.le_refl _) ?_)
  case c3 => exact Nat.le_trans (show 0 + n ≤ 5000 by omega) (by decide)
  case c4 => omega
  intro v1 w1 hown1 hg1
  have hown1 : w1.ownsRow w.heap.size 5 1 v1 n (u8s table) := by simpa using hown1
  obtain ⟨p1, c1, rfl, hbs1, hbk1⟩ := BS.of_owns hown1 (by omega)
  have hb1 : Below w.heap.size w w1 := (Below.refl _ _).grown hg1 (Nat.le_refl _) (fun k hk => by cases hk)
  have H1 := hid (And.intro hbs1 hb1)
  clear hown1 hg1 hbs1 hbk1 hb1
  go_wp2_with (at_builtin; refine wpList_append_src _ rfl _ _ 23 23 rfl w1.heap.size 5 i0 _ 1 1 un_bs8 Hi.out.1 Hi.out.2.1 Hi.out.2.2.1 Hi.out.2.2.2 rfl _ 0 [] rfl (World.ownsRow_nil _ _ _ _) _ k (u8s names) rfl (Src.ofBS un_bs8 (H.out.2.below H1.out.2)) ?c3 ?c4 (Nat.le_refl _) ?_)
  case c3 => exact Nat.le_trans (show 0 + k ≤ 5000 by omega) (by decide)
  case c4 => omega
  intro v2 w2 hown2 hg2
  have hown2 : w2.ownsRow w1.heap.size 5 1 v2 k (u8s names) := by simpa using hown2
  obtain ⟨p2, c2, rfl, hbs2, hbk2⟩ := BS.of_owns hown2 (by omega)
  have hb2 : Below w1.heap.size w1 w2 := (Below.refl _ _).grown hg2 (Nat.le_refl _) (fun k hk => by cases hk)
  have H2 := hid (And.intro (H1.out.1.below hb2) (And.intro hbs2 (H1.out.2.trans (hb2.mono H1.out.2.size))))
  clear hown2 hg2 hbs2 hbk2 hb2
  obtain ⟨M, hM⟩ : ∃ M, M = tableM table names sections := ⟨_, rfl⟩
  have hok := tableM_ok table names sections
  have hap := tableM_apart table names sections
  have hfe := findM_err (tableM table names sections) nl
  rw [← hM] at hok hap hfe
  have HM := hid (And.intro hM (And.intro hok (And.intro hap hfe)))
  clear hok hap hfe
  go_wp2_with fail
  refine (nl_all _ _ _ _ _ _ _ table names sections (by exact H2.out.1) (by exact H2.out.2.1)).mono ?_
  rintro e w3 ⟨v3, rfl, hown3, hb3⟩
  rw [← hM] at hown3
  rw [← hM]
  obtain ⟨L, er⟩ := M
  clear hM
  have hLl : L.length ≤ 4096 := HM.out.2.1.2
  obtain ⟨a3, c3, rfl⟩ := ownsRow_form hown3
  have H3 := hid (And.intro (SS.of_owns hown3 (by simp only; omega)) (And.intro hb3 (H2.out.2.2.trans (hb3.mono H2.out.2.2.size))))
  clear hown3 hb3
  simp only
  go_wp2_with fail
  refine (ref_all _ _ _ _ _ _ _ table names sections (by exact H.out.1.below H3.out.2.2) (by exact H.out.2.below H3.out.2.2)).mono ?_
  rintro e w4 ⟨v4, rfl, hown4, hb4⟩
  rw [← HM.out.1] at hown4
  rw [← HM.out.1]
  obtain ⟨a4, c4, rfl⟩ := ownsRow_form hown4
  have H4 := hid (And.intro (H3.out.1.below hb4) (And.intro (SS.of_owns hown4 (by simp only; omega)) (And.intro ((H2.out.1.below H3.out.2.1).below hb4) (And.intro ((H2.out.2.1.below H3.out.2.1).below hb4) (H3.out.2.2.trans (hb4.mono H3.out.2.2.size))))))
  clear hown4 hb4
  simp only
  go_wp2_with fail
  refine (nl_find _ _ _ _ _ _ _ table names sections nl (by exact H4.out.2.2.1) (by exact H4.out.2.2.2.1)).mono ?_
  rintro e w5 ⟨rfl, hb5⟩
  rw [← HM.out.1, HM.out.2.2.2]
  simp only
  obtain ⟨fs, fi, fe, hf⟩ : ∃ fs fi fe, findM (L, er) nl = (fs, fi, fe) := ⟨_, _, _, rfl⟩
  have hb5w := H4.out.2.2.2.2.trans (hb5.mono H4.out.2.2.2.2.size)
  have hbx := (Below.refl w5.heap.size w5).alloc (Nat.le_refl _) (.cells fs.cells.toArray 30)
  obtain ⟨⟨y0, y1, y2, y3⟩, -⟩ := cur_cells (show (w5.alloc (.cells fs.cells.toArray 30)).heap[w5.heap.size]? = some (.cells #[.string (mkS fs.name), .int .i64 fs.sect, .int .u64 fs.val, .bool fs.weak] _ (0, 0)) from heap_alloc_new w5 _)
  have k1 := run_toString (P := Try.prog) _ _ _ un_bs8 un_u8 un_str ((H4.out.2.2.1.below hb5).below hbx)
  have k2 := run_toString (P := Try.prog) _ _ _ un_bs8 un_u8 un_str ((H.out.1.below hb5w).below hbx)
  have k3 := run_toString (P := Try.prog) _ _ _ un_bs8 un_u8 un_str ((H4.out.2.2.2.1.below hb5).below hbx)
  have k4 := run_toString (P := Try.prog) _ _ _ un_bs8 un_u8 un_str ((H.out.2.below hb5w).below hbx)
  have H5 := hid (And.intro ((H4.out.1.below hb5).below hbx) (And.intro ((H4.out.2.1.below hb5).below hbx) (And.intro (hb5w.trans (hbx.mono hb5w.size)) hf)))
  rw [hf]
  clear hb5 hb5w hbx hf
  simp only [Sym.cells] at y0 y1 y2 y3 k1 k2 k3 k4 ⊢
  go_wp2_with fail
  refine (ref_same _ _ _ L (by exact H5.out.1) (by exact H5.out.2.1)).mono ?_
  rintro e w6 ⟨rfl, q6, rfl⟩
  go_wp2_with fail
  obtain ⟨W, hW⟩ : ∃ W, W = w5.alloc (.cells #[.string (mkS fs.name), .int .i64 fs.sect, .int .u64 fs.val, .bool fs.weak] 30) := ⟨_, rfl⟩
  have hHW : SS W (.slice a4 L.length c4) L ∧ Below w.heap.size w W := by rw [hW]; exact ⟨H5.out.2.1, H5.out.2.2.1⟩
  rw [← hW] at y0 y1 y2 y3 ⊢
  have hap := HM.out.2.2.1
  have hfin : (posM L nl < L.length ∧ fi = true ∧ L[posM L nl]? = some fs) ∨ (¬ posM L nl < L.length ∧ fi = false ∧ fs = Sym.zero) := by
    have hf := H5.out.2.2.2
    by_cases hp : posM L nl < L.length
    · left
      have her : er = 0 := by
        rcases Nat.eq_zero_or_pos er with h | h
        · exact h
        · have hL0 : L = [] := HM.out.2.1.1 (by show er ≠ 0; omega)
          rw [hL0] at hp; simp at hp
      obtain ⟨s, hs⟩ : ∃ s, L[posM L nl]? = some s := ⟨_, List.getElem?_eq_getElem hp⟩
      have := findM_yes (r := (L, er)) her hs
      rw [hf] at this
      cases this
      exact ⟨hp, rfl, hs⟩
    · right
      have := findM_no (r := (L, er)) (nl := nl) (by show L.length ≤ posM L nl; omega)
      rw [hf] at this
      exact ⟨hp, this.2, this.1⟩
  have HW := hid (And.intro hHW (And.intro hap hfin))
  clear hW hHW hap hfin k1 k2 k3 k4
  go_loopw [18, 19] (fun f i wr => ∃ kk q : Nat, kk ≤ L.length ∧ i = .int .i64 (kk : Int) ∧ f = .bool (decide (posM L nl < kk)) ∧ wr = W.drewN q) (fun _ i _ => L.length - (intOf i).toNat)
  case atStart => exact ⟨0, q6, Nat.zero_le _, rfl, by simp, rfl⟩
  case round =>
    obtain ⟨kk, q7, hkk, rfl, rfl, rfl⟩ := hrel
    by_cases hlt : kk < L.length
    · obtain ⟨g, off, rfl, hcs⟩ := HW.out.1.1.at (by omega)
      obtain ⟨s, hs⟩ : ∃ s, L[kk]? = some s := ⟨_, List.getElem?_eq_getElem hlt⟩
      obtain ⟨x0, x1, x2, x3⟩ := hcs kk s hs
      by_cases hn : s.name = nl
      · have hpk : posM L nl = kk := posM_of HW.out.2.1 hs hn
        have hfs : fs = s := by
          rcases HW.out.2.2 with ⟨_, _, h⟩ | ⟨h, _⟩
          · rw [hpk, hs] at h; exact (Option.some.inj h).symm
          · exact absurd (by rw [hpk]; exact hlt) h
        subst hfs
        have hb : (fs.name == nl) = true := by simp [hn]
        have hd : decide (posM L nl < kk + 1) = true := by simp; omega
        have Hd := hid (And.intro hd hpk)
        clear hn hs hcs hd hpk
        go_wp2
        go_quiet (fail)
        go_wp2
        exact ⟨⟨kk + 1, _, by omega, by go_num, by rw [Hd.out.1], rfl⟩, by simp [intOf]; omega⟩
      · have hb : (s.name == nl) = false := by simp [hn]
        have hd : decide (posM L nl < kk + 1) = decide (posM L nl < kk) := by
          have hne : posM L nl ≠ kk := by
            intro e
            rcases HW.out.2.2 with ⟨h1, _, h⟩ | ⟨h, _⟩
            · have h2 := List.findIdx_getElem (p := fun s : Sym => s.name == nl) (xs := L) (w := h1)
              have h3 : (L[posM L nl]'h1).name = nl := eq_of_beq h2
              obtain ⟨t, hT⟩ : ∃ t, t = L[posM L nl]'h1 := ⟨_, rfl⟩
              have h4 : L[posM L nl]? = some t := by rw [hT]; exact List.getElem?_eq_getElem h1
              rw [← hT] at h3
              rw [e, hs] at h4
              cases h4
              exact hn h3
            · exact absurd (by rw [e]; exact hlt) h
          rw [decide_eq_decide]; omega
        have Hd := hid hd
        clear hn hs hcs hd
        go_wp2
        exact ⟨⟨kk + 1, _, by omega, by go_num, by rw [Hd.out], rfl⟩, by simp [intOf]; omega⟩
    · obtain rfl : kk = L.length := by omega
      rcases HW.out.2.2 with ⟨hp, rfl, -⟩ | ⟨hp, rfl, rfl⟩
      · rw [decide_eq_true hp]
        have hzw := HW.out.1.2.size
        clear hp
        go_wp2_with fail
        refine (nl_known _).mono ?_
        rintro e w8 ⟨rfl, hb8⟩
        have H8 := hid ((below_drewN HW.out.1.2 q7).trans (hb8.mono hzw))
        clear hb8
        go_wp2
        go_ret
        exact ⟨rfl, H8.out⟩
      · rw [decide_eq_false hp]
        have hzw := HW.out.1.2.size
        have y0 : W.cell? ⟨w5.heap.size, 0, none⟩ = some (.string ⟨#[]⟩) := y0
        clear hp
        go_wp2_with fail
        refine (nl_known _).mono ?_
        rintro e w8 ⟨rfl, hb8⟩
        have H8 := hid ((below_drewN HW.out.1.2 q7).trans (hb8.mono hzw))
        clear hb8
        go_wp2
        go_ret
        exact ⟨rfl, H8.out⟩

end Go.Proofs.Ytdckfcpjdakjaaa
