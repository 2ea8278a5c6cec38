/- tie makes knots of exports: the walk. -/
import Derived.Test.YtipgcdpmkpjokaaGreatDoorZMkLa
namespace Go.Proofs.YtipgcdpmkpjokaaGreatDoor
set_option linter.unusedSimpArgs false
set_option linter.unusedVariables false
open Go.RowKit

set_option maxHeartbeats 8000000 in
set_option maxRecDepth 100000 in
theorem tie_any : ∀ (m : Nat) (F : Fo), F.size < m → ∀ (w : World) (B : Nat) (v : Value) (L : List KV) (p : List UInt8) (l g1 : List Exp) (s : Option Exp) (pa : Option Addr) (cap : Nat), Ks w B v L → EL w B (.slice pa l.length cap) l → B ≤ w.heap.size → Tied p g1 F →
    ((∃ x, s = some x ∧ l = x :: g1 ∧ x.name = p) ∨ (s = none ∧ l = g1 ∧ ∀ x, g1.head? = some x → p.length < x.name.length)) → (∀ y ∈ l, y.name.length ≤ 255) → l.length ≤ 4096 → L.length + F.size ≤ 9000 → p.length ≤ 255 →
    Calls Tryz.prog 21 #[.slice pa l.length cap, .int .i64 (p.length : Int), v] w (TieEnd w B v L (allAt L.length s F)) := by
  intro m
  induction m with
  | zero =>
    intro F hm
    exact absurd hm (Nat.not_lt_zero _)
  | succ m ih =>
    intro F hm w B v L p l g1 s pa cap hK hE hB hT hs hn hl hLF hp
    obtain ⟨ik, hik, hkz, hks, hkb⟩ := info_parts infoKnot
    obtain ⟨ic, hic, hcz, hcs, hcb⟩ := info_parts infoKid
    obtain ⟨va, vc, rfl⟩ := ownsRow_form hK.row
    have hLb := hK.row.lt
    have H := hid (And.intro hK (And.intro hE (And.intro hT (And.intro hs (And.intro hn (And.intro hm (And.intro hLb (And.intro (And.intro hik (And.intro hkz (And.intro hks hkb))) (And.intro hic (And.intro hcz (And.intro hcs hcb)))))))))))
    have IH := hid ih
    clear hK hE hT hs hn hm hik hkz hks hkb hic hcz hcs hcb hLb ih
    go_enter Tryz.func21, Tryz.ntmps21
    go_wp2_with (at_builtin; refine wpList_append_grew _ rfl _ _ _ _ rfl B 56 ik _ 3 40 un_knots H.out.2.2.2.2.2.2.2.1.1 H.out.2.2.2.2.2.2.2.1.2.1 H.out.2.2.2.2.2.2.2.1.2.2.1 H.out.2.2.2.2.2.2.2.1.2.2.2 rfl _ L.length (kvs L) rfl (ownsRow_below H.out.1.row (by repeat (first | exact Below.refl _ _ | refine below_drewX ?_ | refine below_drewNX ?_ _ | refine Below.alloc ?_ (by simp) _))) _ 1 KV.zero.cells rfl (Src.laid _ un_knots KV.zero.cells 1 rfl (by simp [KV.zero, KV.cells, Value.oneCell']) (0, 0) (by simp)) ?c1a ?c1b ?c1c ?_)
    case c1a => exact Nat.le_trans (show L.length + 1 ≤ 10000 by omega) (by decide)
    case c1b => omega
    case c1c => simp; omega
    intro v1 w1 ho1 hg1
    obtain ⟨w0, hw0⟩ : ∃ w0, w0 = w.alloc (.cells #[.int .i64 (p.length : Int)] 3) := ⟨_, rfl⟩
    have hX0 : w0.cell? ⟨w.heap.size, 0, none⟩ = some (.int .i64 (p.length : Int)) := by rw [hw0, cell_of_row _ _ 0 _ _ _ (heap_alloc_new w _)]; rfl
    have hw0s : w0.heap.size = w.heap.size + 1 := by rw [hw0]; simp
    have hb0 : Below w.heap.size w w0 := by rw [hw0]; exact (Below.refl _ _).alloc (Nat.le_refl _) _
    have G1 : Grew w0 w1 (.slice va L.length vc) v1 := by rw [hw0]; exact Grew.under ((Below.refl _ _).alloc (Nat.le_refl _) _) hg1
    have K1 := (H.out.1.below hb0).push G1 ho1
    obtain ⟨va1, vc1, hv1⟩ := ownsRow_form ho1
    subst hv1
    have hX1 := G1.cell hX0 (fun e => by have := (H.out.2.2.2.2.2.2.1 _ e).2; omega)
    have H1 := hid (And.intro K1 (And.intro G1 (And.intro hw0 (And.intro hX0 (And.intro hw0s hb0)))))
    clear K1 G1 hw0 hX0 hw0s hb0 ho1 hg1
    go_upto_if 29 with fail
    go_cut [29] (fun t wx => t = .bool s.isSome ∧ ∃ q, wx = w1.drewN q)
    case first =>
      have hE1 : EL w1 B (.slice pa l.length cap) l := (H.out.2.1.kept (H1.out.2.2.2.2.2.mono hB)).kept (H1.out.2.1.below (by have := H1.out.2.2.2.2.1; omega) (fun k e => by have := (H.out.2.2.2.2.2.2.1 k e).1; omega))
      rcases H.out.2.2.2.1 with ⟨x, rfl, rfl, hxp⟩ | ⟨rfl, rfl, hhd⟩
      · obtain ⟨g, off, rfl, c0, -⟩ := hE1.es.head
        have d1 : decide ((0 : Int) < (g1.length : Int) + 1) = true := by rw [decide_eq_true_eq]; omega
        have d2 : ((x.name.length : Int) == (p.length : Int)) = true := by rw [hxp]; simp
        have HS := hid (And.intro hE1 hxp)
        clear hE1 hxp
        go_wp2_with fail
        go_quiet (fail)
        go_wp2_with fail
        go_meet
        exact ⟨rfl, _, rfl⟩
      · cases l with
        | nil =>
          clear hhd hE1
          go_wp2_with fail
          go_quiet (fail)
          go_wp2_with fail
          go_meet
          exact ⟨rfl, _, rfl⟩
        | cons x g1 =>
          obtain ⟨g, off, rfl, c0, -⟩ := hE1.es.head
          have hlt := hhd x rfl
          have d1 : decide ((0 : Int) < (g1.length : Int) + 1) = true := by rw [decide_eq_true_eq]; omega
          have d2 : ((x.name.length : Int) == (p.length : Int)) = false := by rw [beq_eq_false_iff_ne]; omega
          have HS := hid (And.intro hE1 hhd)
          clear hE1 hhd
          go_wp2_with fail
          go_quiet (fail)
          go_wp2_with fail
          go_meet
          exact ⟨rfl, _, rfl⟩
    case rest =>
      obtain ⟨rfl, q, rfl⟩ := hcut
      have hBq : Below w1.heap.size w1 (w1.drewN q) := below_drewNX (Below.refl _ _) q
      have hK1 := H1.out.1.below hBq
      have hG1 := H1.out.2.1.over hBq
      have hX1' := hX1
      obtain ⟨W1, hW1⟩ : ∃ W1, W1 = w1.drewN q := ⟨_, rfl⟩
      rw [← hW1] at hK1 hG1 ⊢
      have hE1 : EL W1 B (.slice pa l.length cap) l := (H.out.2.1.kept (H1.out.2.2.2.2.2.mono hB)).kept (hG1.below (by have := H1.out.2.2.2.2.1; omega) (fun k e => by have := (H.out.2.2.2.2.2.2.1 k e).1; omega))
      obtain ⟨gk, ck, hgk, hgkB, -, hcel, hfz⟩ := owns_cell hK1.row (by simp)
      obtain ⟨e1, -, e3⟩ := Value.slice.inj hgk
      subst e1
      subst e3
      have fz1 : W1.frozen? ⟨gk, L.length * 3, none⟩ = false := hfz _
      have ce1 : W1.cell? ⟨gk, L.length * 3, none⟩ = some (.pointer none) := hcel _ _ (kvs_get (L1 := L) (L2 := []) (x := KV.zero) (c := 0) rfl)
      have HF := hid (And.intro hfz (And.intro hK1 (And.intro hG1 hW1)))
      clear hgk hfz hcel hK1 hG1 hX1' hX1 hBq hW1
      go_upto_if 29 with fail
      go_cut [0, 2] (fun t0 t2 wx => TieI w0 B (.slice va L.length vc) L s p F t0 t2 wx)
      case first =>
        rcases H.out.2.2.2.1 with ⟨x, rfl, rfl, hxp⟩ | ⟨rfl, rfl, hhd⟩
        · obtain ⟨g, off, rfl, hsp⟩ := hE1.es.ptr
          have hgB := hE1.block (by simp)
          have htl : ∀ w : World, (Instr.slice 23 (.slice (some ⟨g, off, none⟩) (g1.length + 1) cap) (some (.int .i64 1)) none none).run Tryz.prog w = .ok (.slice (subE (some ⟨g, off, none⟩) 1 cap) g1.length (cap - 1)) w := fun w => by
            have := run_subEl (P := Tryz.prog) (w := w) (t := 23) (some ⟨g, off, none⟩) (g1.length + 1) cap un_exps (sz_exp w) .i64 1 (by omega) (by omega)
            rw [this]; rfl
          have HS := hid (And.intro hE1 (And.intro hsp hxp))
          clear hE1 hsp hxp
          go_wp2_with fail
          go_meet
          refine ⟨g1, F, { KV.zero with ptr := .pointer (some ⟨g, off, none⟩), kn := { KV.zero.kn with says := some x } }, [], ?_⟩
          exact {
            el := by
              have := (HS.out.1.tail (k := 1) (by simp)).set hgkB (L.length * 3) (.pointer (some ⟨g, off, none⟩))
              simpa using this
            tied := H.out.2.2.1
            ks := HF.out.2.1.say (L1 := L) (L2 := []) (x := KV.zero) (by simp) _ _ ⟨HS.out.2.1, fun a e => by cases e; exact hgB⟩
            grew := HF.out.2.2.1.setOwn _ _
            own := fun y hy k hk => by rw [List.mem_singleton.1 hy] at hk; cases hk
            says := rfl
            refs := rfl
            knots := rfl
            few := Nat.le_refl _
            short := fun y hy => H.out.2.2.2.2.1 y (by simp [hy])
            many := by simp at hl; omega }
        · have HS := hid (And.intro hE1 hhd)
          clear hE1 hhd
          go_wp2_with fail
          go_meet
          refine ⟨l, F, KV.zero, [], ?_⟩
          exact {
            el := HS.out.1
            tied := H.out.2.2.1
            ks := HF.out.2.1
            grew := HF.out.2.2.1
            own := fun y hy k hk => by rw [List.mem_singleton.1 hy] at hk; cases hk
            says := rfl
            refs := rfl
            knots := rfl
            few := Nat.le_refl _
            short := H.out.2.2.2.2.1
            many := hl }
      case rest =>
        have HT := hid hcut
        clear hcut hE1 fz1 ce1 hgkB
        go_wp2_with fail
        go_loopw [0, 2] (fun t0 t2 wr => TieI w0 B (.slice va L.length vc) L s p F t0 t2 wr) (fun t0 _ _ => slLen t0)
        case atStart => exact HT.out
        case round =>
          obtain ⟨l1, F1, me, M, hR⟩ := hrel
          obtain ⟨a1, c1, hv0⟩ := hR.el.es.form
          obtain ⟨va2, vc2, hv2⟩ := ownsRow_form hR.ks.row
          obtain ⟨n1, hn1⟩ : ∃ n1, n1 = l1.length := ⟨_, rfl⟩
          obtain ⟨nk, hnk⟩ : ∃ nk, nk = (L ++ me :: M).length := ⟨_, rfl⟩
          have hnk' : nk = L.length + 1 + M.length := by rw [hnk]; simp; omega
          have hl1 := hR.many
          rw [← hn1] at hv0 hl1
          rw [← hnk] at hv2
          subst hv0
          subst hv2
          have hfew := hR.few
          have hnkb : nk ≤ 9001 := by omega
          have hXr := hR.grew.cell H1.out.2.2.2.1 (fun e => by have := (H.out.2.2.2.2.2.2.1 _ e).2; omega)
          have hT := hR.tied
          cases hT with
          | nil =>
            have hR := hid hR
            have hN := hid (And.intro hn1 (And.intro hnk hnk'))
            have h0 : n1 = 0 := by rw [hn1]; rfl
            subst h0
            clear hn1 hnk hnk' hXr
            go_wp2_with fail
            go_ret
            have hq := hR.out
            have e1 := hq.refs
            have e2 := hq.knots
            simp only [Fo.refs, Fo.knots, List.append_nil] at e1 e2
            have e3 : (me :: M).map KV.kn = allAt L.length s F := by
              rw [List.map_cons, allAt, ← e2, ← e1, ← hq.says]
            have e4 : L.length + (allAt L.length s F).length = nk := by rw [← e3, hN.out.2.2]; simp; omega
            refine ⟨va2, vc2, me :: M, by rw [e4]; rfl, e3, by rw [e4]; exact hq.ks, by rw [e4]; exact Grew.under H1.out.2.2.2.2.2 hq.grew, fun y hy k hk => Nat.le_trans H1.out.2.2.2.2.2.size (hq.own y hy k hk)⟩
          | cons p q c x g0 rest g1' says K F' hc hin hq hout hs2 hK2 hF2 =>
            obtain ⟨ng, hng⟩ : ∃ ng, ng = g0.length + 1 := ⟨_, rfl⟩
            have hn1' : n1 = ng + rest.length := by rw [hn1, hng]; simp; omega
            have hpq : p.length + 1 ≤ q.length := by have := hc.length_le; simpa using this
            have hqx := hin x (by simp)
            have hqxl := hqx.length_le
            obtain ⟨g, off, rfl, c0, -⟩ := ES.head (x := x) (l := g0 ++ rest) (by rw [hn1] at hR; exact hR.el.es)
            have hcx : x.name[p.length]? = some c := by
              have h1 : (p ++ [c]) <+: x.name := hc.trans hqx
              obtain ⟨t, ht⟩ := h1
              rw [← ht]; simp
            have hat := mkS_at hcx
            have hxl : p.length < x.name.length := by omega
            have q1 : (p.length : Int) < (x.name.length : Int) := by omega
            have d1 : decide ((0 : Int) < (n1 : Int)) = true := by rw [decide_eq_true_eq]; omega
            have hsm : x.name.length ≤ 255 := hR.short x (by simp)
            have HR := hid (And.intro hR (And.intro hn1 (And.intro hnk (And.intro hnk' (And.intro hng (And.intro hn1' hcx))))))
            have HQ := hid (And.intro hc (And.intro hin (And.intro hq (And.intro hout (And.intro hs2 (And.intro hK2 (And.intro hF2 hqx)))))))
            have hng0 : 0 < ng := by omega
            have hngn : ng ≤ n1 := by omega
            clear hR hn1 hnk hnk' hng hn1' hcx hc hin hq hout hs2 hK2 hF2 hqx
            go_wp2_with fail
            have c0a : (wr.alloc (.cells #[.int .u8 0] 5)).cell? ⟨g, off, none⟩ = some (.string (mkS x.name)) := (((Below.refl _ _).alloc (Nat.le_refl _) _).cell (p := ⟨g, off, none⟩) (World.block_lt_of_cell? wr _ c0)).trans c0
            have hXa : (wr.alloc (.cells #[.int .u8 0] 5)).cell? ⟨w.heap.size, 0, none⟩ = some (.int .i64 (p.length : Int)) := (((Below.refl _ _).alloc (Nat.le_refl _) _).cell (p := ⟨w.heap.size, 0, none⟩) (World.block_lt_of_cell? wr _ hXr)).trans hXr
            go_region
            have hb2 : Below wr.heap.size wr (wr.alloc (.cells #[.int .u8 (c.toNat : Int)] 5)).drew := ((Below.refl _ _).alloc (Nat.le_refl _) _).drew
            have hY2 : (wr.alloc (.cells #[.int .u8 (c.toNat : Int)] 5)).drew.cell? ⟨wr.heap.size, 0, none⟩ = some (.int .u8 (c.toNat : Int)) := lit_cellYD wr _ rfl
            obtain ⟨W2, hW2⟩ : ∃ W2, W2 = (wr.alloc (.cells #[.int .u8 (c.toNat : Int)] 5)).drew := ⟨_, rfl⟩
            rw [← hW2] at hb2 hY2 ⊢
            have hX2 := (hb2.cell (p := ⟨w.heap.size, 0, none⟩) (World.block_lt_of_cell? wr _ hXr)).trans hXr
            have hE2 : EL W2 B (.slice (some ⟨g, off, none⟩) n1 c1) (x :: g0 ++ rest) := HR.out.1.el.kept (hb2.mono (by have h1 := HR.out.1.grew.size; have h2 := H1.out.2.2.2.2.1; omega))
            have hlong : ∀ y ∈ x :: g0 ++ rest, p.length < y.name.length := by
              intro y hy
              rcases List.mem_append.1 hy with hy | hy
              · have := (HQ.out.2.1 y hy).length_le; omega
              · obtain ⟨d, hd, -⟩ := HQ.out.2.2.2.1 y hy
                have := hd.length_le
                simp at this; omega
            have hI := index_tie W2 (.slice (some ⟨g, off, none⟩) n1 c1) (x :: g0 ++ rest) w.heap.size wr.heap.size (fun y => y.name.getD p.length 0 != c) hE2.es (fun w' hb' y hy => tie_1 w' y w.heap.size wr.heap.size p.length c _ ((hb'.cell (p := ⟨w.heap.size, 0, none⟩) (World.block_lt_of_cell? W2 _ hX2)).trans hX2) ((hb'.cell (p := ⟨wr.heap.size, 0, none⟩) (World.block_lt_of_cell? W2 _ hY2)).trans hY2) (getD_at (hlong y hy)))
            rw [idx_group (fun y hy => HQ.out.1.trans (HQ.out.2.1 y hy)) HQ.out.2.2.2.1] at hI
            obtain ⟨z, hz⟩ : ∃ z : Int, z = if rest = [] then -1 else ((x :: g0).length : Int) := ⟨_, rfl⟩
            rw [← hz] at hI
            have HI := hid hI
            have H2 := hid (And.intro hb2 (And.intro hY2 (And.intro hE2 (And.intro hlong (And.intro hz hW2)))))
            clear hI hb2 hY2 hE2 hlong hz hW2 c0a hXa c0 hXr hat hX2
            go_wp2_with fail
            refine HI.out.mono ?_
            rintro e W3 ⟨rfl, hb3⟩
            have H3 := hid hb3
            clear hb3
            go_upto_if 51 with fail
            obtain ⟨kg, rfl⟩ : ∃ kg, ng = kg + 1 := ⟨ng - 1, by omega⟩
            go_cut [9] (fun t9 wx => t9 = .int .i64 ((kg + 1 : Nat) : Int) ∧ W3 = wx)
            case first =>
              by_cases hre : rest = []
              · have hz1 : z = -1 := by rw [H2.out.2.2.2.2.1, if_pos hre]
                have hn2 : n1 = kg + 1 := by rw [HR.out.2.2.2.2.2.1, hre]; rfl
                have Hn := hid hn2
                subst hz1
                clear hn2 hre
                go_wp2_with fail
                go_meet
                exact ⟨by rw [Hn.out], rfl⟩
              · have hz1 : z = ((kg + 1 : Nat) : Int) := by rw [H2.out.2.2.2.2.1, if_neg hre, HR.out.2.2.2.2.1]; rfl
                have d9 : decide (((kg + 1 : Nat) : Int) < 0) = false := by rw [decide_eq_false_iff_not]; omega
                have d9' : decide ((kg : Int) + 1 < 0) = false := by rw [decide_eq_false_iff_not]; omega
                subst hz1
                clear hre
                go_wp2_with fail
                go_meet
                exact ⟨by first | rfl | (congr 1), rfl⟩
            case rest =>
              obtain ⟨rfl, rfl⟩ := hcut
              obtain ⟨yl, hyl⟩ : ∃ yl, yl = (x :: g0).getLast (by simp) := ⟨_, rfl⟩
              have hyg : (x :: g0 ++ rest)[kg]? = some yl := by
                rw [hyl, List.getLast_eq_getElem]
                rw [List.getElem?_append_left (by have := HR.out.2.2.2.2.1; simp; omega)]
                rw [List.getElem?_eq_getElem (by have := HR.out.2.2.2.2.1; simp; omega)]
                congr 1
                congr 1
                have := HR.out.2.2.2.2.1; simp; omega
              have hE3 : EL W3 B (.slice (some ⟨g, off, none⟩) n1 c1) (x :: g0 ++ rest) := H2.out.2.2.1.kept (H3.out.mono (by have h1 := HR.out.1.grew.size; have h2 := H1.out.2.2.2.2.1; have h3 := H2.out.1.size; omega))
              obtain ⟨g', off', hgo, c0, -⟩ := ES.head (x := x) (l := g0 ++ rest) (by have h := hE3.es; rw [HR.out.2.1] at h; exact h)
              obtain ⟨e1, e2, -⟩ := Addr.mk.inj (Option.some.inj hgo)
              subst e1
              subst e2
              clear hgo
              obtain ⟨g', off', hgo, c1l, -⟩ := ES.at (k := kg) (x := yl) (by have h := hE3.es; rw [HR.out.2.1] at h; exact h) hyg
              obtain ⟨e1, e2, -⟩ := Addr.mk.inj (Option.some.inj hgo)
              subst e1
              subst e2
              clear hgo
              have hX3 := (H3.out.cell (p := ⟨w.heap.size, 0, none⟩) (World.block_lt_of_cell? W2 _ (show W2.cell? ⟨w.heap.size, 0, none⟩ = some (.int .i64 (p.length : Int)) from ((H2.out.1.cell (p := ⟨w.heap.size, 0, none⟩) (World.block_lt_of_cell? wr _ (HR.out.1.grew.cell H1.out.2.2.2.1 (fun e => by have := (H.out.2.2.2.2.2.2.1 _ e).2; omega)))).trans (HR.out.1.grew.cell H1.out.2.2.2.1 (fun e => by have := (H.out.2.2.2.2.2.2.1 _ e).2; omega)))))).trans ((H2.out.1.cell (p := ⟨w.heap.size, 0, none⟩) (World.block_lt_of_cell? wr _ (HR.out.1.grew.cell H1.out.2.2.2.1 (fun e => by have := (H.out.2.2.2.2.2.2.1 _ e).2; omega)))).trans (HR.out.1.grew.cell H1.out.2.2.2.1 (fun e => by have := (H.out.2.2.2.2.2.2.1 _ e).2; omega)))
              have hql : q.length ≤ x.name.length := hqxl
              have hqy : q.length ≤ yl.name.length := (HQ.out.2.1 yl (by rw [hyl]; exact List.getLast_mem _)).length_le
              have hys : yl.name.length ≤ 255 := HR.out.1.short yl (List.mem_of_getElem? hyg)
              have hqs : q = shareL x.name yl.name := by rw [hyl]; exact HQ.out.2.2.1
              have q2 : (kg : Int) + 1 < (n1 : Int) + 1 := by omega
              have q3 : (kg : Int) < (n1 : Int) := by omega
              have q4 : (0 : Int) ≤ (kg : Int) := by omega
              have q5 : IntKind.i64.wrap ((kg : Int) + 1 - 1) = (kg : Int) := (IntWalk.i64_in _ (by omega)).trans (by omega)
              have q6 : IntKind.i64.wrap (kg : Int) = (kg : Int) := IntWalk.i64_in _ (by omega)
              have q8 : (kg : Int) + 1 - 1 = (kg : Int) := by omega
              have H4 := hid (And.intro hyl (And.intro hyg (And.intro hqs hE3)))
              clear hyl hyg hqs hE3
              go_wp2_with fail
              go_quiet (fail)
              obtain ⟨w5, hw5⟩ : ∃ w5, w5 = wr := ⟨_, rfl⟩
              subst hw5
              go_upto_block 2 with fail
              go_cut [10] from 62 to 88 (fun t10 wx => t10 = .int .i64 (q.length : Int) ∧ Below W3.heap.size W3 wx)
              case first =>
                go_wp2_with fail
                go_loopw [10] (fun t10 wx => ∃ j : Nat, p.length + 1 ≤ j ∧ j ≤ q.length ∧ t10 = .int .i64 (j : Int) ∧ Below W3.heap.size W3 wx) (fun t10 _ => q.length - (intOf t10).toNat)
                case atStart => exact ⟨p.length + 1, Nat.le_refl _, hpq, by go_num, below_drewNX (Below.refl _ _) _⟩
                case round =>
                  obtain ⟨j, hj1, hj2, rfl, hb5⟩ := hrel
                  have e0 := (hb5.cell (p := ⟨g, off, none⟩) (World.block_lt_of_cell? W3 _ c0)).trans c0
                  have HB := hid hb5
                  clear hb5
                  by_cases hjq : j < q.length
                  · obtain ⟨cc, hca, hcb⟩ := share_at H4.out.2.2.1 hjq
                    have hja : j < x.name.length := by omega
                    have hjb : j < yl.name.length := by omega
                    have d1 : decide (j < x.name.length) = true := by rw [decide_eq_true_eq]; exact hja
                    have d1' : decide ((j : Int) < (x.name.length : Int)) = true := by rw [decide_eq_true_eq]; omega
                    have d2 : decide (j < yl.name.length) = true := by rw [decide_eq_true_eq]; exact hjb
                    have d2' : decide ((j : Int) < (yl.name.length : Int)) = true := by rw [decide_eq_true_eq]; omega
                    have ka := mkS_at hca
                    have kb := mkS_at hcb
                    clear hca hcb
                    go_wp2_with fail
                    go_quiet (fail)
                    go_wp2_with fail
                    go_roundw
                    case rel => exact ⟨j + 1, by omega, by omega, by go_num, below_drewNX HB.out _⟩
                    case measure => simp [intOf]; omega
                  · obtain rfl : j = q.length := by omega
                    by_cases h1 : q.length < x.name.length
                    · have d1 : decide (q.length < x.name.length) = true := by rw [decide_eq_true_eq]; exact h1
                      have d1' : decide ((q.length : Int) < (x.name.length : Int)) = true := by rw [decide_eq_true_eq]; omega
                      by_cases h2 : q.length < yl.name.length
                      · obtain ⟨cc, hca⟩ : ∃ c, x.name[q.length]? = some c := ⟨_, List.getElem?_eq_getElem h1⟩
                        obtain ⟨dd, hcb⟩ : ∃ d, yl.name[q.length]? = some d := ⟨_, List.getElem?_eq_getElem h2⟩
                        have hne := share_max H4.out.2.2.1 hca hcb
                        have d2 : decide (q.length < yl.name.length) = true := by rw [decide_eq_true_eq]; exact h2
                        have d2' : decide ((q.length : Int) < (yl.name.length : Int)) = true := by rw [decide_eq_true_eq]; omega
                        have ka := mkS_at hca
                        have kb := mkS_at hcb
                        have t1 : ((cc.toNat : Int) == (dd.toNat : Int)) = false := by
                          rw [beq_eq_false_iff_ne]
                          intro e
                          exact hne (UInt8.toNat_inj.1 (by omega))
                        clear hca hcb hne
                        go_wp2_with fail
                        go_quiet (fail)
                        go_wp2_with fail
                        go_meet
                        exact ⟨rfl, below_drewNX HB.out _⟩
                      · have d2 : decide (q.length < yl.name.length) = false := by rw [decide_eq_false_iff_not]; exact h2
                        have d2' : decide ((q.length : Int) < (yl.name.length : Int)) = false := by rw [decide_eq_false_iff_not]; omega
                        clear h2
                        go_wp2_with fail
                        go_quiet (fail)
                        go_wp2_with fail
                        go_meet
                        exact ⟨rfl, below_drewNX HB.out _⟩
                    · have d1 : decide (q.length < x.name.length) = false := by rw [decide_eq_false_iff_not]; exact h1
                      have d1' : decide ((q.length : Int) < (x.name.length : Int)) = false := by rw [decide_eq_false_iff_not]; omega
                      clear h1
                      go_wp2_with fail
                      go_quiet (fail)
                      go_wp2_with fail
                      go_meet
                      exact ⟨rfl, below_drewNX HB.out _⟩
              case rest =>
                obtain ⟨rfl, hb5⟩ := hcut
                have hbt : Below w5.heap.size w5 wc := (H2.out.1.trans (H3.out.mono H2.out.1.size)).trans (hb5.mono (Nat.le_trans H2.out.1.size H3.out.size))
                have hKc := HR.out.1.ks.below hbt
                have hGc := HR.out.1.grew.over hbt
                have hEc : EL wc B (.slice (some ⟨g, off, none⟩) n1 c1) (x :: g0 ++ rest) := H4.out.2.2.2.kept (hb5.mono (by have h1 := HR.out.1.grew.size; have h2 := H1.out.2.2.2.2.1; have h3 := H2.out.1.size; have h4 := H3.out.size; omega))
                have hXc : wc.cell? ⟨w.heap.size, 0, none⟩ = some (.int .i64 (p.length : Int)) := hGc.cell H1.out.2.2.2.1 (fun e => by have := (H.out.2.2.2.2.2.2.1 _ e).2; omega)
                have hcc : wc.cell? ⟨g, off, none⟩ = some (.string (mkS x.name)) := (hb5.cell (p := ⟨g, off, none⟩) (World.block_lt_of_cell? W3 _ c0)).trans c0
                have hgB : g < B := hEc.block (by omega)
                obtain ⟨gk2, ck2, hgk2, hgkB2, -, hcel, hfz⟩ := owns_cell hKc.row (by rw [List.length_append, List.length_cons]; omega)
                obtain ⟨e1, -, e3⟩ := Value.slice.inj hgk2
                subst e1
                subst e3
                clear hgk2
                have hmem : me ∈ L ++ me :: M := by simp
                have hrk := hKc.kids me hmem
                have hap := hKc.away me hmem
                have hob := HR.out.1.own me (by simp)
                obtain ⟨ka, kc, hkv⟩ := ownsRow_form hrk
                have kce : wc.cell? ⟨gk2, L.length * 3 + 1, none⟩ = some me.kv := hcel _ _ (kvs_get (L1 := L) (L2 := M) (x := me) (c := 1) rfl)
                have hi0 : In3 wc gk2 (L.length * 3 + 1) me.kv g off x.name w.heap.size p.length := ⟨kce, hcc, hXc, hfz _⟩
                obtain ⟨kn, hkn⟩ : ∃ kn, kn = me.kn.kids.length := ⟨_, rfl⟩
                obtain ⟨E, hE⟩ : ∃ E, E = q.drop p.length := ⟨_, rfl⟩
                have hsub : (mkS x.name).extract p.length q.length = mkS E := by
                  rw [mkS_sub, hE]
                  congr 2
                  exact (List.prefix_iff_eq_take.1 HQ.out.2.2.2.2.2.2.2).symm
                obtain ⟨kids, hkids⟩ : ∃ k, k = me.kn.kids := ⟨_, rfl⟩
                rw [← hkids] at hrk hkn hkv
                rw [← hkn] at hrk hkv
                rw [hkv] at hrk hap hob hi0
                have hBc : B ≤ wc.heap.size := by have h1 := HR.out.1.grew.size; have h2 := H1.out.2.2.2.2.1; have h3 := hbt.size; omega
                have hknb : kn ≤ 9000 := by
                  have h1 := congrArg List.length HR.out.1.refs
                  rw [List.length_append, Fo.refs_len, Fo.refs_len, ← hkids, ← hkn] at h1
                  have h2 := roots_le F
                  omega
                have n1k : (Value.slice ka kn kc).ownBlock ≠ some gk2 := fun e => absurd rfl (hap gk2 e)
                have n2k : (Value.slice ka kn kc).ownBlock ≠ some g := fun e => by have := (hrk.lt _ e).1; omega
                have n3k : (Value.slice ka kn kc).ownBlock ≠ some w.heap.size := fun e => by have h1 := hob _ e; have h2 := H1.out.2.2.2.2.1; omega
                have H5 := hid (And.intro hbt (And.intro hKc (And.intro hGc (And.intro hEc (And.intro hrk (And.intro hkn (And.intro hkv (And.intro hE (And.intro hkids (And.intro hap hob))))))))))
                have HI := hid (And.intro hi0 (And.intro n1k (And.intro n2k n3k)))
                have xa := hi0.alloc (.cells #[.string (mkS E), .int .i64 (nk : Int)] 74)
                have x1a := xa.k0
                have x2a := xa.n0
                have x3a := xa.x0
                clear xa
                have x1 := hi0.k0
                have x2 := hi0.n0
                have x3 := hi0.x0
                clear hbt hKc hGc hEc hXc hcc hcel hfz hmem hrk hap hob kce hi0 hkn hkv hE hkids n1k n2k n3k hb5 c0
                have q10 : (L.length : Int) < (nk : Int) := by have := HR.out.2.2.2.1; omega
                have q11 : (p.length : Int) ≤ (q.length : Int) := by omega
                have q12 : (q.length : Int) ≤ (x.name.length : Int) := by omega
                go_upto_region 14 with fail
                go_cut [] (fun wx => ∃ me7 : KV, me7.kn = { me.kn with kids := me.kn.kids ++ [(E, nk)] } ∧ (∀ k, me7.kv.ownBlock = some k → w0.heap.size ≤ k) ∧ Ks wx B (.slice (some ⟨gk2, 0, none⟩) nk vc2) (L ++ me7 :: M) ∧ Grew w0 wx (.slice va L.length vc) (.slice (some ⟨gk2, 0, none⟩) nk vc2) ∧ EL wx B (.slice (some ⟨g, off, none⟩) n1 c1) (x :: g0 ++ rest))
                case first =>
                  have hi := HI.out.1
                  have hne1 : g ≠ gk2 := by omega
                  go_region_law (refine step_grew _ rfl _ _ _ _ rfl B 74 ic _ 2 24 un_kids H.out.2.2.2.2.2.2.2.2.1 H.out.2.2.2.2.2.2.2.2.2.1 H.out.2.2.2.2.2.2.2.2.2.2.1 H.out.2.2.2.2.2.2.2.2.2.2.2 rfl _ kn (kidCs kids) rfl (ownsRow_below H5.out.2.2.2.2.1 (((Below.refl _ _).alloc (Nat.le_refl _) _).drew)) _ 1 [.string (mkS E), .int .i64 (nk : Int)] rfl (Src.laidD _ un_kids [.string (mkS E), .int .i64 (nk : Int)] 1 rfl (by simp [Value.oneCell']) (0, 0) rfl) (Nat.le_trans (show kn + 1 ≤ 10000 by omega) (by decide)) (by omega) (by simp; omega) ?_; intro v3 W6 ho3 hg3; have hg3 : Grew wc W6 _ v3 := Grew.under (((Below.refl _ _).alloc (Nat.le_refl _) _).drew) hg3; have hi := HI.out.1.grew hg3 HI.out.2.1 HI.out.2.2.1 HI.out.2.2.2; have y1 := hi.k0; have y2 := hi.fz; obtain ⟨a3, p3, hv3⟩ := ownsRow_form ho3; subst hv3; have H6 := hid (And.intro ho3 hg3); clear ho3 hg3 hi)
                  all_goals
                    go_wp2_with fail
                    go_meet
                    refine ⟨{ me with kv := .slice a3 (kn + 1) p3, kn := { me.kn with kids := me.kn.kids ++ [(E, nk)] } }, rfl, H6.out.2.high H5.out.2.2.1.size (fun k e => H5.out.2.2.2.2.2.2.2.2.2.2 k e), ?_, ?_, ?_⟩
                    · exact H5.out.2.1.kid (L1 := L) (L2 := M) (x := me) HR.out.2.2.1.symm (.slice a3 (kn + 1) p3) (E, nk) (by rw [H5.out.2.2.2.2.2.2.1]; exact H6.out.2) (by rw [← H5.out.2.2.2.2.2.2.2.2.1, ← H5.out.2.2.2.2.2.1]; exact H6.out.1)
                    · exact (H5.out.2.2.1.overB (H6.out.2.below H5.out.2.2.1.size (fun k e => H5.out.2.2.2.2.2.2.2.2.2.2 k e))).setOwn _ _
                    · exact (H5.out.2.2.2.1.kept (H6.out.2.below hBc (fun k e => (H5.out.2.2.2.2.1.lt k e).1))).set hgkB2 _ _
                case rest =>
                  obtain ⟨me7, hme7, hob7, hK7, hG7, hE7⟩ := hcut
                  have hlen7 : (L ++ me7 :: M).length = nk := by rw [HR.out.2.2.1]; simp
                  have hB7 : B ≤ wc.heap.size := by have h1 := hG7.size; have h2 := H1.out.2.2.2.2.1; omega
                  have hl0 : (x :: g0).length = kg + 1 := by have := HR.out.2.2.2.2.1; simp; omega
                  have hq255 : q.length ≤ 255 := by omega
                  have hC : Calls Tryz.prog 21 #[.slice (some ⟨g, off, none⟩) (kg + 1) c1, .int .i64 (q.length : Int), .slice (some ⟨gk2, 0, none⟩) nk vc2] wc (TieEnd wc B (.slice (some ⟨gk2, 0, none⟩) nk vc2) (L ++ me7 :: M) (allAt nk says K)) := by
                    have hfew := HR.out.1.few
                    rw [Fo.size] at hfew
                    have hm := H.out.2.2.2.2.2.1
                    have hmany := HR.out.1.many
                    have hnk' := HR.out.2.2.2.1
                    have h := IH.out K (by omega) wc B (.slice (some ⟨gk2, 0, none⟩) nk vc2) (L ++ me7 :: M) q (x :: g0) g1' says (some ⟨g, off, none⟩) c1 hK7
                      (by
                        have h1 := hE7.front (k := kg + 1) hngn
                        rw [List.take_left' hl0] at h1
                        rw [hl0]; exact h1) hB7 HQ.out.2.2.2.2.2.1
                      (by
                        rcases HQ.out.2.2.2.2.1 with ⟨h1, h2, h3⟩ | ⟨h1, h2, h3, -⟩
                        · exact .inl ⟨x, h1, by rw [h3], h2⟩
                        · refine .inr ⟨h1, h3.symm, fun y hy => ?_⟩
                          rw [h3] at hy
                          cases hy
                          exact h2)
                      (fun y hy => HR.out.1.short y (List.mem_append_left _ hy)) (by rw [List.length_append] at hmany; omega) (by rw [hlen7]; omega) hq255
                    rw [hl0, hlen7] at h
                    exact h
                  have hHC := hid hC
                  have hcap1 : n1 ≤ c1 := by
                    obtain ⟨p', cap', hv, h1, -⟩ := hE7.es
                    obtain ⟨-, e2, e3⟩ := Value.slice.inj hv
                    omega
                  have hsh : ∀ w : World, (Instr.slice 23 (.slice (some ⟨g, off, none⟩) n1 c1) none (some (.int .i64 ((kg : Int) + 1))) none).run Tryz.prog w = .ok (.slice (some ⟨g, off, none⟩) (kg + 1) c1) w := fun w => by
                    have := run_subEh (P := Tryz.prog) (w := w) (t := 23) (some ⟨g, off, none⟩) n1 c1 un_exps (sz_exp w) .i64 ((kg : Int) + 1) (by omega) (by omega)
                    rw [this]; rfl
                  have H7 := hid (And.intro hK7 (And.intro hG7 (And.intro hE7 (And.intro hlen7 hme7))))
                  clear hC hK7 hG7 hE7 hlen7 hme7 x1 x2 x3 x1a x2a x3a
                  go_wp2_with fail
                  refine (hHC.out).mono ?_
                  rintro e W8 ⟨a8, c8, M8, rfl, hM8, hK8, hG8, hO8⟩
                  have hl8 : M8.length = 1 + K.size := by
                    have := congrArg List.length hM8
                    rw [List.length_map] at this
                    rw [this, allAt, List.length_cons, Fo.knots_len]; omega
                  obtain ⟨z8, hz8⟩ : ∃ z, z = nk + (allAt nk says K).length := ⟨_, rfl⟩
                  rw [H7.out.2.2.2.1, ← hz8] at hK8 hG8
                  rw [H7.out.2.2.2.1, ← hz8]
                  have hsl : ∀ w : World, (Instr.slice 23 (.slice (some ⟨g, off, none⟩) n1 c1) (some (.int .i64 ((kg : Int) + 1))) none none).run Tryz.prog w = .ok (.slice (subE (some ⟨g, off, none⟩) (kg + 1) c1) (n1 - (kg + 1)) (c1 - (kg + 1))) w := fun w => by
                    have := run_subEl (P := Tryz.prog) (w := w) (t := 23) (some ⟨g, off, none⟩) n1 c1 un_exps (sz_exp w) .i64 ((kg : Int) + 1) (by omega) (by omega)
                    rw [this]; rfl
                  have H8 := hid (And.intro hM8 (And.intro hK8 (And.intro hG8 (And.intro hO8 hl8))))
                  clear hM8 hK8 hG8 hO8 hl8 hz8 hsh
                  go_wp2_with fail
                  go_roundw
                  case rel =>
                    have e1 : L.length + 1 + (M ++ M8).length = L.length + 1 + M.length + 1 + K.size := by rw [List.length_append, H8.out.2.2.2.2]; omega
                    have e2 : nk = L.length + 1 + M.length := HR.out.2.2.2.1
                    refine ⟨rest, F', me7, M ++ M8, ?_⟩
                    exact {
                      el := by
                        have hB8 : Below B wc W8 := H8.out.2.2.1.below hB7 (fun k e => by cases e; exact hgkB2)
                        have h1 := (H7.out.2.2.1.kept hB8).tail (k := kg + 1) hngn
                        rw [List.drop_left' hl0] at h1
                        exact h1
                      tied := HQ.out.2.2.2.2.2.2.1
                      ks := by
                        have h1 := H8.out.2.1
                        rw [List.append_assoc, List.cons_append] at h1
                        exact h1
                      grew := H7.out.2.1.trans H8.out.2.2.1
                      own := fun y hy k hk => by
                        rcases List.mem_cons.1 hy with rfl | hy
                        · exact hob7 k hk
                        · rcases List.mem_append.1 hy with hy | hy
                          · exact HR.out.1.own y (by simp [hy]) k hk
                          · exact Nat.le_trans H7.out.2.1.size (H8.out.2.2.2.1 y hy k hk)
                      says := by rw [H7.out.2.2.2.2]; exact HR.out.1.says
                      refs := by
                        have h1 := HR.out.1.refs
                        rw [Fo.refs] at h1
                        rw [H7.out.2.2.2.2, e1]
                        show (me.kn.kids ++ [(E, nk)]) ++ _ = _
                        rw [← h1, e2, H5.out.2.2.2.2.2.2.2.1, List.append_assoc]
                        rfl
                      knots := by
                        have h1 := HR.out.1.knots
                        rw [Fo.knots] at h1
                        rw [← h1, e1, List.map_append, H8.out.1, List.append_assoc, e2]
                        rfl
                      few := by
                        have h1 := HR.out.1.few
                        have h2 := H8.out.2.2.2.2
                        rw [Fo.size] at h1
                        rw [List.length_append]; omega
                      short := fun y hy => HR.out.1.short y (List.mem_append_right _ hy)
                      many := by
                        have := HR.out.1.many
                        rw [List.length_append] at this; omega }
                  case measure => simp [slLen] <;> omega
end Go.Proofs.YtipgcdpmkpjokaaGreatDoor
