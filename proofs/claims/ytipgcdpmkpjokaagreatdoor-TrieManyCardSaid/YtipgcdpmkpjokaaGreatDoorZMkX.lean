/- trie.Make: the walk. -/
import Derived.Test.YtipgcdpmkpjokaaGreatDoorZMkT
import Derived.Test.YtipgcdpmkpjokaaGreatDoorZMkL
namespace Go.Proofs.YtipgcdpmkpjokaaGreatDoor
set_option linter.unusedSimpArgs false
set_option linter.unusedVariables false
open Go.RowKit

def MakeEnd (w : World) (r : List UInt8 × Int) (e : Ending) (w' : World) : Prop :=
  (∃ a cap, e = .returned (.tuple #[.slice a r.1.length cap, .int .i64 r.2]) ∧ OB w' w.heap.size 5 (.slice a r.1.length cap) r.1) ∧ Below w.heap.size w w'

theorem makeEnd_none {w w' : World} {r : List UInt8 × Int} {z : Int} (hr : r = ([], z)) (hb : Below w.heap.size w w') : MakeEnd w r (.returned (.tuple #[.slice none 0 0, .int .i64 z])) w' := by
  subst hr
  exact ⟨⟨none, 0, rfl, OB.nil _ _ _⟩, hb⟩

/-- Neighbours among the first j differ. -/
def DiffTo (s : List Exp) (j : Nat) : Prop := ∀ i x y, i + 1 < j → s[i]? = some x → s[i + 1]? = some y → x.name ≠ y.name

/-- So far the rounds. -/
def RoundR (w5 : World) (B : Nat) (L : List KV) (K : List Knot) (k : Nat) (v5 v6 : Value) (wr : World) : Prop :=
  ∃ r bs, k = leftP (capB K + 1) (iterP K r) ∧ Rd w5 wr B L (iterP K r) v5 v6 bs

/-- So far one round. -/
def KnotsR (w5 wb : World) (B : Nat) (L : List KV) (K : List Knot) (P : List Nat) (v v7 : Value) (v6 v56 : Value) (wr : World) : Prop :=
  ∃ i : Nat, i ≤ K.length ∧ v56 = .int .i64 (i : Int) ∧ RdN w5 wb wr B L K P v v7 v6 i

set_option maxHeartbeats 8000000 in
set_option maxRecDepth 100000 in
theorem make_any (w : World) (p : Option Addr) (cap : Nat) (l : List Exp) (F : Fo) (P0 : List Nat) (h : ES w (.slice p l.length cap) l) (hx : ∀ x ∈ l, x.value < 2 ^ 64 ∧ x.resolver < 2 ^ 64 ∧ x.ordinal < 2 ^ 64)
    (hF : l.all mayE = true → apartB l = true → Tied [] (byNames l) F ∧ Fix (allK F) P0) :
    Calls Tryz.prog 7 #[.slice p l.length cap] w (MakeEnd w (makeM l (allK F) P0)) := by
  have hlen := h.len
  have hA := any_may w (.slice p l.length cap) l h
  by_cases h1 : l.all mayE = false
  · have hr : makeM l (allK F) P0 = ([], 2) := by unfold makeM; rw [if_pos h1]
    rw [h1] at hA
    have H := hid (And.intro hA hr)
    clear hA hr h h1 hx hF
    go_enter Tryz.func7, Tryz.ntmps7
    go_wp2_with fail
    go_step3
    go_wp2_with fail
    refine (H.out.1).mono ?_
    rintro e w1 ⟨rfl, hb1⟩
    have H1 := hid hb1
    clear hb1
    go_wp2_with fail
    refine bodyPost_ret (v := .tuple #[.slice none 0 0, .int .i64 2]) (by simp [results, Tryz.results7, go_sem]) rfl ?_
    exact makeEnd_none H.out.2 H1.out
  have h1' : l.all mayE = true := by simpa using h1
  rw [h1'] at hA
  by_cases h2 : 4096 < l.length
  · have hr : makeM l (allK F) P0 = ([], 11) := by unfold makeM; rw [if_neg h1, if_pos h2]
    have hd : decide ((4096 : Int) < (l.length : Int)) = true := by rw [decide_eq_true_eq]; omega
    have H := hid (And.intro hA hr)
    clear hA hr h h1 h1' h2 hx hF
    go_enter Tryz.func7, Tryz.ntmps7
    go_wp2_with fail
    go_step3
    go_wp2_with fail
    refine (H.out.1).mono ?_
    rintro e w1 ⟨rfl, hb1⟩
    have H1 := hid hb1
    clear hb1
    go_wp2_with fail
    refine bodyPost_ret (v := .tuple #[.slice none 0 0, .int .i64 11]) (by simp [results, Tryz.results7, go_sem]) rfl ?_
    exact makeEnd_none H.out.2 H1.out
  have hd2 : decide ((4096 : Int) < (l.length : Int)) = false := by rw [decide_eq_false_iff_not]; omega
  by_cases h3 : l.length = 0
  · have hr : makeM l (allK F) P0 = ([], 0) := by unfold makeM; rw [if_neg h1, if_neg h2, if_pos h3]
    have hd : ((l.length : Int) == 0) = true := by rw [beq_iff_eq]; omega
    have H := hid (And.intro hA hr)
    clear hA hr h h1 h1' h2 h3 hx hF
    go_enter Tryz.func7, Tryz.ntmps7
    go_wp2_with fail
    go_step3
    go_wp2_with fail
    refine (H.out.1).mono ?_
    rintro e w1 ⟨rfl, hb1⟩
    have H1 := hid hb1
    clear hb1
    go_wp2_with fail
    refine bodyPost_ret (v := .tuple #[.slice none 0 0, .int .i64 0]) (by simp [results, Tryz.results7, go_sem]) rfl ?_
    exact makeEnd_none H.out.2 H1.out
  have hd3 : ((l.length : Int) == 0) = false := by rw [beq_eq_false_iff_ne]; omega
  obtain ⟨b0, o0, rfl, -⟩ : ∃ b off, p = some ⟨b, off, none⟩ ∧ True := by
    obtain ⟨p', cap', he, _, _, h5⟩ := h
    cases he
    obtain ⟨b, off, hp, _⟩ := h5 (by intro e; subst e; simp at h3)
    exact ⟨b, off, hp, trivial⟩
  have hmake : makeM l (allK F) P0 = if apartB l = false then ([], 21) else if 1048576 < (outB (allK F) P0).length then ([], 11) else (outB (allK F) P0, 0) := by
    unfold makeM; rw [if_neg h1, if_neg h2, if_neg h3]
  obtain ⟨R, hR⟩ : ∃ R, R = makeM l (allK F) P0 := ⟨_, rfl⟩
  rw [← hR] at hmake ⊢
  clear hR
  obtain ⟨n, hn⟩ : ∃ n, n = l.length := ⟨_, rfl⟩
  have hn0 : 0 < n := by omega
  have hn1 : n ≤ 4096 := by omega
  rw [← hn] at h hA hd2 hd3 ⊢
  have hall : ∀ x ∈ l, mayE x = true := fun x hx => List.all_eq_true.1 h1' x hx
  have hgood : ∀ x ∈ l, GoodX x := fun x h => good_of (hall x h) (hx x h).1 (hx x h).2.1 (hx x h).2.2
  have H := hid (And.intro h (And.intro hA (And.intro hmake (And.intro hn (And.intro hgood (fun ha => hF h1' ha))))))
  clear h hA hmake hn hgood hF h1 h1' h2 h3 hx hall hlen
  go_enter Tryz.func7, Tryz.ntmps7
  go_wp2_with fail
  go_step3
  go_wp2_with fail
  refine (H.out.2.1).mono ?_
  rintro e w1 ⟨rfl, hb1⟩
  have hC := clone_exp w1 ⟨b0, o0, none⟩ cap l (by have := H.out.1.below hb1; rw [H.out.2.2.2.1] at this; exact this) (by have := H.out.2.2.2.1; omega)
  rw [← H.out.2.2.2.1] at hC
  have H1 := hid (And.intro hb1 hC)
  clear hb1 hC
  go_wp2_with fail
  refine (H1.out.2).mono ?_
  rintro e w2 ⟨v2, rfl, ho2, hb2⟩
  have hS := sort_free w2 w1.heap.size v2 l ho2 (by have := H.out.2.2.2.1; omega) (by have := H.out.2.2.2.1; omega)
  obtain ⟨g2, c2, hv2⟩ : ∃ g c, v2 = .slice (some ⟨g, 0, none⟩) n c := by
    rw [H.out.2.2.2.1]
    obtain ⟨g, c, hv, -⟩ := owns_cell ho2 (by have := H.out.2.2.2.1; omega)
    exact ⟨g, c, hv⟩
  subst hv2
  have H2 := hid (And.intro ho2 (And.intro hb2 hS))
  clear ho2 hb2 hS
  go_wp2_with fail
  refine (H2.out.2.2).mono ?_
  rintro e w3 ⟨rfl, ⟨s, hsp, hss, hse⟩, hg3⟩
  have hgl := H2.out.1.lt g2 rfl
  have hb3 : Below w1.heap.size w2 w3 := (Grew.mk hg3 (.inl rfl) : Grew w2 w3 _ (.slice (some ⟨g2, 0, none⟩) n c2)).below H2.out.2.1.size (fun k e => by cases e; exact hgl.1)
  have hsl : s.length = n := by rw [hsp.length_eq, H.out.2.2.2.1]
  have hel : EL w3 w3.heap.size (.slice (some ⟨g2, 0, none⟩) n c2) s := ⟨hse, fun k hk => by
    have h1 : g2 = k := by have := hk.2; simpa using this
    have h2 := hb3.size
    omega⟩
  have H3 := hid (And.intro hsp (And.intro hss (And.intro hel (And.intro hsl ((H1.out.1.trans (H2.out.2.1.mono H1.out.1.size)).trans (hb3.mono H1.out.1.size))))))
  clear hsp hss hse hg3 hgl hb3 hsl hel
  go_wp2_with fail
  go_loopw [28] (fun t wr => ∃ j : Nat, j ≤ n ∧ t = .int .i64 (j : Int) ∧ DiffTo s j ∧ Below w3.heap.size w3 wr) (fun t _ => n - (intOf t).toNat)
  case atStart => exact ⟨0, Nat.zero_le _, rfl, fun i x y hi => by omega, Below.refl _ _⟩
  case round =>
    obtain ⟨j, hj, rfl, hdf, hbr⟩ := hrel
    have hel := H3.out.2.2.1.kept hbr
    have HR := hid (And.intro hdf (And.intro hbr hel))
    clear hdf hbr
    by_cases hjn : j < n
    · obtain ⟨y, hy⟩ : ∃ y, s[j]? = some y := ⟨_, List.getElem?_eq_getElem (by have := H3.out.2.2.2.1; omega)⟩
      obtain ⟨gy, oy, hgy, y0, -⟩ := hel.es.at hy
      cases hgy
      rcases Nat.eq_zero_or_pos j with hj0 | hj0
      · have hd : decide ((0 : Int) < (j : Int)) = false := by rw [decide_eq_false_iff_not]; omega
        have hd6 : decide (0 < j) = false := by rw [decide_eq_false_iff_not]; omega
        have Hj := hid hj0
        clear hy hel hj0
        go_wp2_with fail
        go_quiet (fail)
        go_wp2_with fail
        go_roundw
        case rel =>
          refine ⟨j + 1, by omega, by go_num, fun i x y hi => by have := Hj.out; omega, below_drewNX HR.out.2.1 _⟩
        case measure => simp [intOf]; omega
      · obtain ⟨m, rfl⟩ : ∃ m, j = m + 1 := ⟨j - 1, by omega⟩
        obtain ⟨x, hx⟩ : ∃ x, s[m]? = some x := ⟨_, List.getElem?_eq_getElem (by have := H3.out.2.2.2.1; omega)⟩
        obtain ⟨gx, ox, hgx, x0, -⟩ := hel.es.at hx
        cases hgx
        rw [Nat.zero_add] at x0 y0
        have hd : decide ((0 : Int) < ((m + 1 : Nat) : Int)) = true := by rw [decide_eq_true_eq]; omega
        have hd' : decide ((0 : Int) < (m : Int) + 1) = true := by rw [decide_eq_true_eq]; omega
        have hd6 : decide (0 < m + 1) = true := by rw [decide_eq_true_eq]; omega
        have q5 : IntKind.i64.wrap ((m : Int) + 1 - 1) = (m : Int) := (IntWalk.i64_in _ (by omega)).trans (by omega)
        have q6 : IntKind.i64.wrap (m : Int) = (m : Int) := IntWalk.i64_in _ (by omega)
        have q8 : (m : Int) + 1 - 1 = (m : Int) := by omega
        have q9 : (m : Int) < (n : Int) := by omega
        have q10 : (m : Int) + 1 < (n : Int) := by omega
        obtain ⟨eq, heq⟩ : ∃ b, b = (x.name == y.name) := ⟨_, rfl⟩
        have heq' := heq.symm
        have Hx := hid (And.intro hx (And.intro hy heq))
        clear hx hy heq hel
        cases eq with
        | true =>
          go_wp2_with fail
          go_quiet (fail)
          go_wp2_with fail
          refine bodyPost_ret (v := .tuple #[.slice none 0 0, .int .i64 21]) (by simp [results, Tryz.results7, go_sem]) rfl ?_
          have hr := H.out.2.2.1
          rw [if_pos (apart_not H3.out.1 Hx.out.1 Hx.out.2.1 (by have := Hx.out.2.2; simpa using this.symm))] at hr
          exact makeEnd_none hr (H3.out.2.2.2.2.trans ((below_drewNX HR.out.2.1 _).mono H3.out.2.2.2.2.size))
        | false =>
          go_wp2_with fail
          go_quiet (fail)
          go_wp2_with fail
          go_roundw
          case rel =>
            refine ⟨m + 1 + 1, by omega, by go_num, fun i a b hi ha hb => ?_, below_drewNX HR.out.2.1 _⟩
            by_cases him : i = m
            · subst him
              rw [Hx.out.1] at ha
              rw [Hx.out.2.1] at hb
              cases ha; cases hb
              have := Hx.out.2.2
              simpa using this.symm
            · exact HR.out.1 i a b (by omega) ha hb
          case measure => simp [intOf]; omega
    · obtain rfl : j = n := by omega
      obtain ⟨hap, hsb⟩ := apart_yes H3.out.1 H3.out.2.1 (fun i x y hx hy => HR.out.1 i x y (by have := (List.getElem?_eq_some_iff.1 hy).1; have := H3.out.2.2.2.1; omega) hx hy)
      obtain ⟨hT, hfix⟩ := H.out.2.2.2.2.2 hap
      rw [← hsb] at hT
      have hgs : ∀ y ∈ s, GoodX y := fun y hy => H.out.2.2.2.2.1 y (H3.out.1.mem_iff.1 hy)
      have hcap := cap_all hT hgs (by have := H3.out.2.2.2.1; omega)
      have hmany := hT.many
      have hr := H.out.2.2.1
      rw [hap, if_neg (by simp)] at hr
      have hti := tie_any (F.size + 1) F (Nat.lt_succ_self _) wr wr.heap.size (.slice none 0 0) [] [] s s none (some ⟨g2, 0, none⟩) c2 (Ks.nil _ _)
        (by
          have h1 := HR.out.2.2
          have h2 := H3.out.2.2.2.1
          rw [h2]
          exact ⟨h1.es, fun k hk => Nat.lt_of_lt_of_le (h1.low k hk) HR.out.2.1.size⟩) (Nat.le_refl _) hT
        (.inr ⟨rfl, rfl, fun x hx => (hgs x (List.mem_of_mem_head? hx)).name1⟩) (fun y hy => (hgs y hy).name2) (by have := H3.out.2.2.2.1; omega) (by have := H3.out.2.2.2.1; simp; omega) (by simp)
      rw [H3.out.2.2.2.1] at hti
      have hti' : Calls Tryz.prog 21 #[.slice (some ⟨g2, 0, none⟩) j c2, .int .i64 0, .slice none 0 0] wr (TieEnd wr wr.heap.size (.slice none 0 0) [] (allAt 0 none F)) := hti
      have H4 := hid (And.intro hti' (And.intro hT (And.intro hfix (And.intro hgs (And.intro hcap (And.intro hmany hr))))))
      clear hap hsb hT hfix hgs hcap hmany hr hti hti' hel
      go_wp2_with fail
      refine (H4.out.1).mono ?_
      rintro e w5 ⟨a5, c5, L, rfl, hM, hK5, hG5, hO5⟩
      obtain ⟨K, hK⟩ : ∃ K, K = allK F := ⟨_, rfl⟩
      have hM' : L.map KV.kn = K := by rw [hM, hK]; rfl
      have hlen : L.length = K.length := by rw [← hM', List.length_map]
      have hKl : K.length = F.size + 1 := by rw [hK, allK_len]
      have hal : ([] : List KV).length + (allAt 0 none F).length = K.length := by rw [← hM, List.length_map, hlen]; simp
      rw [hal] at hK5 hG5 ⊢
      rw [List.nil_append] at hK5
      obtain ⟨N, hN⟩ : ∃ N, N = K.length := ⟨_, rfl⟩
      rw [← hN] at hK5 hG5 ⊢
      have hjs : F.size ≤ 8192 := by have h1 := H4.out.2.2.2.2.2.1; have h2 := H3.out.2.2.2.1; omega
      have hNb : 0 < N ∧ N ≤ 8193 := by omega
      have hkin : ∀ k ∈ K, KnotIn 0 (F.size + 1) s k := by rw [hK]; exact allK_in H4.out.2.1 (fun y hy => (H4.out.2.2.2.1 y hy).name3)
      have hkn : ∀ x ∈ L, x.kn ∈ K := fun x hx => by rw [← hM']; exact List.mem_map_of_mem hx
      have hRK : RdK w5 L := ⟨by omega, by omega, fun x hx => KS.of_owns (hK5.kids x hx) (by have := (hkin _ (hkn x hx)).few; omega), fun x hx => (hK5.says x hx).1⟩
      have hD : Rd w5 w5 wr.heap.size L (iterP K 0) (.slice a5 N c5) (.slice none 0 0) [] := by
        refine ⟨Below.refl _ _, ?_, OB.nil _ _ _, (Apart.nil _).symm⟩
        have h1 := hK5.row
        rw [kvsP_zero, hlen] at h1
        rw [hlen]
        exact h1
      have hbw : Below w.heap.size w w5 := by
        have h1 := H3.out.2.2.2.2.trans (HR.out.2.1.mono H3.out.2.2.2.2.size)
        exact h1.trans ((hG5.below (Nat.le_refl _) (fun k e => by cases e)).mono h1.size)
      have hcapK : capB K ≤ 600000000 := by rw [hK]; exact H4.out.2.2.2.2.1
      have hfix : Fix K P0 := by rw [hK]; exact H4.out.2.2.1
      have hr := H4.out.2.2.2.2.2.2
      rw [← hK] at hr
      have hm5 : wr.heap.size ≤ w5.heap.size := hG5.size
      have HL := hid (show N = F.size + 1 by omega)
      have H5 := hid (And.intro hM' (And.intro hlen (And.intro hN (And.intro hkin (And.intro hRK (And.intro hbw (And.intro hcapK (And.intro hfix (And.intro hr hm5)))))))))
      have HD := hid hD
      clear hM hM' hK5 hG5 hO5 hal hlen hKl hkn hkin hRK hD hbw hcapK hfix hr hN hm5 hK hjs
      obtain ⟨hN0, hN1⟩ := hNb
      obtain ⟨B, hB⟩ : ∃ B, B = wr.heap.size := ⟨_, rfl⟩
      have hm5 := H5.out.2.2.2.2.2.2.2.2.2
      rw [← hB] at HD hm5
      have HB := hid hm5
      clear hm5 hB
      go_wp2_with fail
      go_step3
      go_wp2_with fail
      go_loopg [5, 6] (leftP (capB K + 1) (iterP K 0)) (fun k v5 v6 wx => RoundR w5 B L K k v5 v6 wx)
      case atStart => exact ⟨0, [], rfl, HD.out⟩
      case round =>
        obtain ⟨wb, hwb⟩ : ∃ wb, wb = wr := ⟨_, rfl⟩
        subst hwb
        obtain ⟨r, bs, hgk, hD⟩ := hrel
        obtain ⟨P, hP⟩ : ∃ P, P = iterP K r := ⟨_, rfl⟩
        rw [← hP] at hgk hD
        have hPl : P.length = K.length := by rw [hP, iterP_len]
        have hPs : ∀ i, P.getD i 0 ≤ 600000000 := fun i => by rw [hP]; exact Nat.le_trans (iterP_small K r i) H5.out.2.2.2.2.2.2.1
        have hlen := H5.out.2.1
        have hNK := H5.out.2.2.1
        obtain ⟨g, c, hv5, hgB, hgs, -, -⟩ := owns_cell hD.row (by omega)
        rw [hlen, ← hNK] at hv5
        subst hv5
        obtain ⟨oa, oc, hv6⟩ := hD.outb.form
        subst hv6
        have hsl : ∀ w : World, (Instr.slice 29 (.slice oa bs.length oc) none (some (.int .i64 0)) none).run Tryz.prog w = .ok (.slice oa 0 oc) w := fun w => by
          have := run_subh (P := Tryz.prog) (w := w) (t := 29) oa bs.length oc un_bs (sz_u8 w) .i64 0 (by omega) (by omega)
          rw [this]; rfl
        have hcl : Calls Tryz.prog 22 #[.slice (some ⟨g, 0, none⟩) N c] wb (fun e w' => ∃ g' cap', e = .returned (.slice (some ⟨g', 0, none⟩) N cap') ∧ w'.ownsRow wb.heap.size 56 3 (.slice (some ⟨g', 0, none⟩) N cap') L.length (kvsP L P) ∧ Below wb.heap.size wb w') := by
          have h1 := hD.reads H5.out.2.2.2.2.1 (by rw [hPl, hlen])
          have h2 := clone_knots wb g c L P (by rw [hlen, ← hNK]; exact h1) (by omega) (by omega)
          rw [hlen, ← hNK] at h2
          rw [hlen, ← hNK]
          exact h2
        have HH := hid (And.intro hP (And.intro hgk (And.intro hD.clear (And.intro hcl (And.intro hPl (And.intro hPs (And.intro hgB hgs)))))))
        clear hP hgk hD hcl hPl hPs hgB hgs hlen hNK
        go_wp2_with fail
        refine (HH.out.2.2.2.1).mono ?_
        rintro e w6 ⟨g7, c7, rfl, ho7, hb6⟩
        have hg7 := ho7.lt g7 rfl
        have hRN : RdN w5 wb w6 B L K P (.slice (some ⟨g, 0, none⟩) N c) (.slice (some ⟨g7, 0, none⟩) N c7) (.slice oa 0 oc) 0 :=
          ⟨HH.out.2.2.1.next hb6, by rw [mixP_zero]; exact ho7, fun k hk e => by
            cases hk
            have := HH.out.2.2.1.outb.lt g7 e
            omega, fun k hk e => by
            cases hk
            cases e
            have := HH.out.2.2.2.2.2.2.2
            omega⟩
        have H6 := hid (And.intro hRN (And.intro hb6 hg7))
        clear hRN hb6 hg7 ho7 hsl
        go_wp2_with fail
        go_loopw [6, 56] (fun v6 v56 wx => KnotsR w5 wb B L K P (.slice (some ⟨g, 0, none⟩) N c) (.slice (some ⟨g7, 0, none⟩) N c7) v6 v56 wx) (fun _ v56 _ => N - (intOf v56).toNat)
        case atStart => exact ⟨0, Nat.zero_le _, rfl, H6.out.1⟩
        case round =>
          obtain ⟨i, hi, rfl, hRN⟩ := hrel
          obtain ⟨oa1, oc1, hv6⟩ := hRN.rd.outb.form
          obtain ⟨m, hm⟩ : ∃ m, m = (outB (K.take i) P).length := ⟨_, rfl⟩
          rw [← hm] at hv6
          subst hv6
          have hmb : m ≤ 600000000 := by rw [hm]; exact Nat.le_trans (outB_take_le P K i) (Nat.le_trans (outB_le P K) H5.out.2.2.2.2.2.2.1)
          rw [← H5.out.2.2.1] at hi
          by_cases hin : i < N
          · obtain ⟨x, hx⟩ : ∃ x, L[i]? = some x := ⟨_, List.getElem?_eq_getElem (by have h1 := H5.out.2.1; have h2 := H5.out.2.2.1; omega)⟩
            have hk : K[i]? = some x.kn := by rw [← H5.out.1, List.getElem?_map, hx]; rfl
            have hKR := hRN.rd.reads H5.out.2.2.2.2.1 (by rw [HH.out.2.2.2.2.1, H5.out.2.1])
            obtain ⟨c0, c1, c2⟩ := hKR.at hx
            obtain ⟨pi, hpi⟩ : ∃ pi, pi = P.getD i 0 := ⟨_, rfl⟩
            rw [← hpi] at c2
            obtain ⟨kp, kc, hkv⟩ := (hKR.kids x (List.mem_of_getElem? hx)).form
            obtain ⟨pa, hxp⟩ : ∃ pa, Value.pointer pa = x.ptr := by
              have h1 := hKR.says x (List.mem_of_getElem? hx)
              cases hsx : x.kn.says with
              | none => rw [hsx] at h1; exact ⟨none, h1.symm⟩
              | some y => rw [hsx] at h1; obtain ⟨b, o, h2, -⟩ := h1; exact ⟨_, h2.symm⟩
            obtain ⟨nk, hnk⟩ : ∃ nk, nk = x.kn.kids.length := ⟨_, rfl⟩
            rw [← hnk] at hkv
            rw [hkv] at c1
            rw [← hxp] at c0
            have q1 : (i : Int) < (N : Int) := by omega
            have HR3 := hid (And.intro hRN (And.intro hm (And.intro hx (And.intro hk (And.intro hKR (And.intro hpi (And.intro hkv (And.intro hxp hnk))))))))
            clear hRN hm hx hk hKR hpi hkv hxp hnk
            go_upto_region 22 with fail
            obtain ⟨X, hX⟩ : ∃ X, X = wr.heap.size := ⟨_, rfl⟩
            obtain ⟨W1, hW1⟩ : ∃ W1, W1 = wr.alloc (.cells #[.pointer pa, .slice kp nk kc, .int .i64 (pi : Int)] 56) := ⟨_, rfl⟩
            rw [← hX, ← hW1]
            have hba : Below wr.heap.size wr W1 := by rw [hW1]; exact (Below.refl _ _).alloc (Nat.le_refl _) _
            have hR1 := HR3.out.1.next hba
            have hbox : BoxAt W1 X 56 #[.pointer pa, .slice kp nk kc, .int .i64 (pi : Int)] := ⟨by rw [hW1, hX]; exact heap_alloc_new wr _⟩
            obtain ⟨g7', c7', hv7, -, hg7l, hcel, hfz⟩ := owns_cell hR1.row7 (by have h1 := H5.out.2.1; have h2 := H5.out.2.2.1; omega)
            obtain ⟨e7, -, -⟩ := Value.slice.inj hv7
            obtain ⟨e7, -, -⟩ := Addr.mk.inj (Option.some.inj e7)
            subst e7
            clear hv7
            have hmp : (mixP K P i).length = L.length := by rw [mixP_len HH.out.2.2.2.2.1 (by rw [← H5.out.2.2.1]; exact hi), H5.out.2.1]
            have s7 := hcel _ _ (kvsP_get L (mixP K P i) i x _ HR3.out.2.2.1 (getD_some (by rw [hmp, H5.out.2.1, ← H5.out.2.2.1]; exact hin)) 2 _ rfl)
            have f7 := hfz (i * 3 + 2)
            have hgX : g7 ≠ X := by
              have := (HR3.out.1.row7.lt g7 rfl).2
              rw [hX]; omega
            have HW := hid (And.intro hR1 (And.intro hbox (And.intro hX (And.intro hW1 (And.intro hba hgX)))))
            clear hR1 hbox hX hW1 hba hcel hfz hmp hg7l hgX c0 c1 c2
            go_upto_region 23 with fail
            obtain ⟨W2, hW2⟩ : ∃ W2, W2 = W1.setCell ⟨g7, i * 3 + 2, none⟩ (.int .i64 (m : Int)) := ⟨_, rfl⟩
            rw [← hW2]
            have hRM : RdM w5 wb W2 B L K P (.slice (some ⟨g, 0, none⟩) N c) (.slice (some ⟨g7, 0, none⟩) N c7) (.slice oa1 m oc1) i := by
              have h1 := HW.out.1.set (HH.out.2.2.1.bel.size) HH.out.2.2.2.2.1 H5.out.2.1 (by rw [← H5.out.2.2.1]; exact hin) (by rw [H5.out.2.1, ← H5.out.2.2.1])
              rw [← HR3.out.2.1] at h1
              rw [hW2]; exact h1
            have hbox2 : BoxAt W2 X 56 #[.pointer pa, .slice kp nk kc, .int .i64 (pi : Int)] := ⟨by rw [hW2, setC_other _ _ _ _ _ (fun e => HW.out.2.2.2.2.2 e.symm)]; exact HW.out.2.1.row⟩
            have b0 : W2.cell? ⟨X, 0, none⟩ = some (.pointer pa) := hbox2.cell 0
            have b1 : W2.cell? ⟨X, 1, none⟩ = some (.slice kp nk kc) := hbox2.cell 1
            have b2 : W2.cell? ⟨X, 2, none⟩ = some (.int .i64 (pi : Int)) := hbox2.cell 2
            have hxm := List.mem_of_getElem? HR3.out.2.2.1
            have hkm := List.mem_of_getElem? HR3.out.2.2.2.1
            have hKR2 := hRM.rd.reads H5.out.2.2.2.2.1 (by rw [HH.out.2.2.2.2.1, H5.out.2.1])
            have hkb : (knotB P x.kn).length ≤ 600000000 := Nat.le_trans (knotB_le P x.kn) (Nat.le_trans (capK_le hkm) H5.out.2.2.2.2.2.2.1)
            have hcall : Calls Tryz.prog 23 #[.agg #[.pointer pa, .slice kp nk kc, .int .i64 (pi : Int)], .slice (some ⟨g, 0, none⟩) N c] W2 (BytesEnd W2 (knotB P x.kn)) := by
              have h1 := kn_bytes W2 (.pointer pa) (.slice kp nk kc) (pi : Int) x.kn (by rw [HR3.out.2.2.2.2.2.2.2.1]; exact hKR2.says x hxm) (fun y hy => H4.out.2.2.2.1 y ((H5.out.2.2.2.1 _ hkm).says y hy))
                (by have := hKR2.kids x hxm; rw [HR3.out.2.2.2.2.2.2.1] at this; exact this) (.slice (some ⟨g, 0, none⟩) N c) N P (by have := hKR2.ats; rw [H5.out.2.1, ← H5.out.2.2.1] at this; exact this)
                (fun r hr => by
                  have h1 := ((H5.out.2.2.2.1 _ hkm).kids r hr).2.2.2
                  have h2 := HL.out
                  omega) (fun i => by have := HH.out.2.2.2.2.2.1 i; omega) (by omega)
              exact h1
            have hout : (outB (K.take i) P).length + (knotB P x.kn).length ≤ 600000000 := by
              rw [← List.length_append, ← outB_take HR3.out.2.2.2.1]
              exact Nat.le_trans (outB_take_le P K (i + 1)) (Nat.le_trans (outB_le P K) H5.out.2.2.2.2.2.2.1)
            have HM := hid (And.intro hRM (And.intro hkb (And.intro hcall hout)))
            clear hRM hbox2 hxm hkm hKR2 hkb hcall hout hW2 s7 f7
            go_wp2_with fail
            refine (HM.out.2.2.1).mono ?_
            rintro e w8 ⟨⟨ab, cb, rfl, hob⟩, hb8⟩
            have hRM8 := HM.out.1.next hb8
            obtain ⟨iu, RU⟩ := u8rowX
            have HU := hid RU
            have H8 := hid (And.intro hRM8 hob)
            clear hRM8 hob hb8 RU b0 b1 b2
            go_wp2_with (at_builtin; refine wpList_bytes HU.out _ rfl _ _ _ rfl w5.heap.size _ (outB (K.take i) P) rfl H8.out.1.rd.outb _ (knotB P x.kn) rfl (Src.ofBS un_bsX (H8.out.2.bs (by have := HM.out.2.1; omega))) ?e1 ?e2 ?_)
            case e1 => have := HM.out.2.2.2; omega
            case e2 => exact H8.out.1.rd.bel.size
            intro v9 W9 ho9 hg9
            have hRN9 := H8.out.1.app HR3.out.2.2.2.1 hg9 ho9
            have H9 := hid hRN9
            clear ho9 hg9 hRN9
            go_wp2_with fail
            go_roundw
            case rel => exact ⟨i + 1, by rw [← H5.out.2.2.1]; omega, by go_num, H9.out⟩
            case measure => simp [intOf]; omega
          · obtain rfl : i = N := by omega
            have hKi := H5.out.2.2.1
            have hLi := H5.out.2.1
            have hPl := HH.out.2.2.2.2.1
            obtain ⟨Q, hQ⟩ : ∃ Q, Q = nextP K P := ⟨_, rfl⟩
            have r7 := hRN.row7
            rw [show mixP K P i = Q by rw [hKi, mixP_full hPl, hQ]] at r7
            have hD9 := hRN.rd
            rw [show outB (K.take i) P = outB K P by rw [hKi, List.take_length]] at hD9 hm
            have hQl : Q.length = L.length := by rw [hQ, nextP_len, hLi]
            have hKP := hD9.reads H5.out.2.2.2.2.1 (by rw [hPl, hLi])
            have hKQ : KnR wr (.slice (some ⟨g7, 0, none⟩) i c7) L Q := KnR.of_owns hQl r7 H5.out.2.2.2.2.1.pos hKP.kids hKP.says
            have hap7 := hRN.ap7
            obtain ⟨w9, hw9⟩ : ∃ w9, w9 = wr := ⟨_, rfl⟩
            subst hw9
            have HQ := hid (And.intro hQ (And.intro r7 (And.intro hD9 (And.intro hKP (And.intro hKQ (And.intro hap7 (And.intro hm (And.intro hPl hQl))))))))
            clear hQ r7 hD9 hKP hKQ hap7 hm hPl hQl hRN hKi hLi
            go_wp2_with fail
            go_loopw [5, 75] (fun t5 t wx => ∃ k : Nat, k ≤ i ∧ t5 = .slice (some ⟨g, 0, none⟩) i c ∧ t = .int .i64 (k : Int) ∧ (∀ a, a < k → Q.getD a 0 = P.getD a 0) ∧ Below w9.heap.size w9 wx) (fun _ t _ => i - (intOf t).toNat)
            case atStart => exact ⟨0, Nat.zero_le _, rfl, rfl, fun a ha => by omega, Below.refl _ _⟩
            case round =>
              obtain ⟨k, hk, rfl, rfl, hsame, hbk⟩ := hrel
              have HS := hid (And.intro hsame hbk)
              by_cases hki : k < i
              · obtain ⟨x, hx⟩ : ∃ x, L[k]? = some x := ⟨_, List.getElem?_eq_getElem (by have h1 := H5.out.2.1; have h2 := H5.out.2.2.1; omega)⟩
                have c2 := ((HQ.out.2.2.2.1.below hbk).at hx).2.2
                have d2 := ((HQ.out.2.2.2.2.1.below hbk).at hx).2.2
                obtain ⟨pk, hpk⟩ : ∃ pk, pk = P.getD k 0 := ⟨_, rfl⟩
                obtain ⟨qk, hqk⟩ : ∃ qk, qk = Q.getD k 0 := ⟨_, rfl⟩
                rw [← hpk] at c2
                rw [← hqk] at d2
                have q1 : (k : Int) < (i : Int) := by omega
                have Hx := hid (And.intro hx (And.intro hpk hqk))
                clear hx hpk hqk hsame hbk
                by_cases heq : qk = pk
                · subst heq
                  have t1 : ((qk : Int) != (qk : Int)) = false := by simp
                  go_wp2_with fail
                  go_quiet (fail)
                  go_wp2_with fail
                  go_roundw
                  case rel =>
                    refine ⟨k + 1, by omega, rfl, by go_num, fun a ha => ?_, below_drewNX HS.out.2 _⟩
                    by_cases hak : a = k
                    · subst hak; rw [← Hx.out.2.1, ← Hx.out.2.2]
                    · exact HS.out.1 a (by omega)
                  case measure => simp [intOf]; omega
                · have t1 : ((qk : Int) != (pk : Int)) = true := by rw [bne_iff_ne]; omega
                  have Hne := hid heq
                  clear heq
                  go_wp2_with fail
                  go_quiet (fail)
                  go_wp2_with fail
                  go_roundg (leftP (capB K + 1) (iterP K (r + 1)))
                  case measure =>
                    rw [HH.out.2.1, HH.out.1]
                    refine iterP_left K r (fun e => ?_)
                    rw [← HH.out.1, ← HQ.out.1] at e
                    exact Hne.out (by rw [Hx.out.2.1, Hx.out.2.2, e])
                  case rel =>
                    have hD := HQ.out.2.2.1.next (below_drewNX HS.out.2 nq)
                    refine ⟨r + 1, outB K P, rfl, hD.bel, ?_, hD.outb, HQ.out.2.2.2.2.2.1⟩
                    have h1 := ownsRow_base (ownsRow_below HQ.out.2.1 (below_drewNX HS.out.2 nq)) (base' := B) (Nat.le_trans HB.out HH.out.2.2.1.bel.size)
                    rw [HQ.out.1, HH.out.1] at h1
                    exact h1
              · obtain rfl : k = i := by omega
                have hKk := H5.out.2.2.1
                have hQP : Q = P := by
                  refine List.ext_getElem (by rw [HQ.out.2.2.2.2.2.2.2.2, HQ.out.2.2.2.2.2.2.2.1, H5.out.2.1]) (fun a h1 h2 => ?_)
                  have h3 := hsame a (by rw [hKk, ← HQ.out.2.2.2.2.2.2.2.1]; exact h2)
                  rw [List.getD_eq_getElem?_getD, List.getD_eq_getElem?_getD, List.getElem?_eq_getElem h1, List.getElem?_eq_getElem h2] at h3
                  exact h3
                have hfix : Fix K P := ⟨r, HH.out.1, by rw [← HQ.out.1]; exact hQP⟩
                have hPP : P = P0 := fix_one hfix H5.out.2.2.2.2.2.2.2.1
                have hD := HQ.out.2.2.1.next hbk
                have hbw := H5.out.2.2.2.2.2.1.trans (hD.bel.mono H5.out.2.2.2.2.2.1.size)
                have hr := H5.out.2.2.2.2.2.2.2.2.1
                rw [← hPP, ← HQ.out.2.2.2.2.2.2.1] at hr
                have hmm := HQ.out.2.2.2.2.2.2.1
                have HZ := hid (And.intro hD (And.intro hbw (And.intro hr hmm)))
                clear hsame hbk hQP hfix hPP hD hbw hr hmm hKk
                by_cases hbig : 1048576 < m
                · have d1 : decide ((1048576 : Int) < (m : Int)) = true := by rw [decide_eq_true_eq]; omega
                  have Hb := hid hbig
                  clear hbig
                  go_wp2_with fail
                  rw [Exit.noGoto_ret]
                  refine bodyPost_ret (v := .tuple #[.slice none 0 0, .int .i64 11]) (by simp [results, Tryz.results7, go_sem]) rfl ?_
                  refine makeEnd_none ?_ HZ.out.2.1
                  have hr := HZ.out.2.2.1
                  rw [if_pos Hb.out] at hr
                  exact hr
                · have d1 : decide ((1048576 : Int) < (m : Int)) = false := by rw [decide_eq_false_iff_not]; omega
                  have Hb := hid hbig
                  clear hbig
                  go_wp2_with fail
                  rw [Exit.noGoto_ret]
                  refine bodyPost_ret (v := .tuple #[.slice oa1 m oc1, .int .i64 0]) (by simp [results, Tryz.results7, go_sem]) rfl ?_
                  have hr := HZ.out.2.2.1
                  rw [if_neg Hb.out] at hr
                  rw [hr]
                  refine ⟨⟨oa1, oc1, by rw [← HZ.out.2.2.2], ?_⟩, HZ.out.2.1⟩
                  have h1 := HZ.out.1.outb
                  rw [HZ.out.2.2.2] at h1
                  exact h1.base H5.out.2.2.2.2.2.1.size
end Go.Proofs.YtipgcdpmkpjokaaGreatDoor
