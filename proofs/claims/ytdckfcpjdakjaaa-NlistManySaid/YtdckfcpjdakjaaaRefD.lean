/- The walk of layer 10's reference: All. -/
import Derived.Test.YtdckfcpjdakjaaaRefC
namespace Go.Proofs.Ytdckfcpjdakjaaa
set_option linter.unusedSimpArgs false
set_option linter.unusedVariables false
open Go.RowKit Go.Maps

theorem symsCells_at (l : List Sym) (k i : Nat) (hi : i < 4) : (symsCells l)[k * 4 + i]? = (l[k]?).bind (fun s => s.cells[i]?) := by
  induction l generalizing k with
  | nil => simp [symsCells]
  | cons s r ih =>
    have e : symsCells (s :: r) = s.cells ++ symsCells r := rfl
    have hl : s.cells.length = 4 := rfl
    rw [e]
    cases k with
    | zero => rw [List.getElem?_append_left (by rw [hl]; omega)]; simp
    | succ k =>
      rw [List.getElem?_append_right (by rw [hl]; omega), hl, show (k + 1) * 4 + i - 4 = k * 4 + i by omega, ih]
      simp

/-- A slice of the call's own that holds symbols: where its cells lie. -/
theorem ownsSyms_at {w : World} {base : Nat} {a : Option Addr} {n cap : Nat} {out : List Sym} (h : w.ownsRow base 30 4 (.slice a n cap) n (symsCells out)) (hn : n = out.length) (hpos : 0 < n) :
    ∃ g, a = some ⟨g, 0, none⟩ ∧ base ≤ g ∧ ∀ k s, out[k]? = some s → w.cell? ⟨g, k * 4, none⟩ = some (.string (mkS s.name)) ∧ w.cell? ⟨g, k * 4 + 1, none⟩ = some (.int .i64 s.sect) ∧ w.cell? ⟨g, k * 4 + 2, none⟩ = some (.int .u64 s.val) ∧ w.cell? ⟨g, k * 4 + 3, none⟩ = some (.bool s.weak) := by
  have h0 := h
  rcases h.2 with ⟨he, hn0⟩ | ⟨g, cap', cur, he, hb, rest⟩
  · omega
  · cases he
    refine ⟨g, rfl, hb, fun k s hs => ?_⟩
    have hk : k < n := by have := (List.getElem?_eq_some_iff.1 hs).1; omega
    have hc := fun i (hi : i < 4) => (h0.cellAt (k * 4 + i) (by omega)).trans ((symsCells_at out k i hi).trans (by rw [hs]))
    exact ⟨hc 0 (by omega), hc 1 (by omega), hc 2 (by omega), hc 3 (by omega)⟩

structure RAllRel (w : World) (tv nv : Value) (table names : List UInt8) (sections : Int) (M : List Sym × Nat) (i9 v8 : Value) (wr : World) (o m : Nat) (out : List Sym) : Prop where
  below : Below w.heap.size w wr
  idx : i9 = .int .i64 (o : Int)
  len : table.length = o + 16 * m
  own : wr.ownsRow w.heap.size 30 4 v8 out.length (symsCells out)
  few : out.length ≤ 4096
  val : allM names sections m (table.drop o) out = M

def RAllAt (w : World) (tv nv : Value) (table names : List UInt8) (sections : Int) (M : List Sym × Nat) (i9 v8 : Value) (wr : World) : Prop :=
  ∃ o m out, RAllRel w tv nv table names sections M i9 v8 wr o m out

theorem RAllRel.keep {w : World} {tv nv : Value} {table names : List UInt8} {sections : Int} {M : List Sym × Nat} {i9 v8 : Value} {wr : World} {o m : Nat} {out : List Sym}
    (R : RAllRel w tv nv table names sections M i9 v8 wr o (m + 1) out) {w' : World} (hb : Below wr.heap.size wr w') (hv : allM names sections m (table.drop (o + 16)) out = M) :
    RAllRel w tv nv table names sections M (.int .i64 ((o : Int) + 16)) v8 w' (o + 16) m out :=
  ⟨R.below.trans (hb.mono R.below.size), by rw [Int.natCast_add]; rfl, by rw [R.len]; omega, ownsRow_below R.own hb, R.few, hv⟩

theorem entryM_not {E names : List UInt8} {sections : Int} (h : ¬ ((E[4]?.getD 0).toNat = 15 ∨ (E[4]?.getD 0).toNat = 3)) : entryM E names sections = none := by
  unfold entryM toldM
  rw [if_neg (fun e => h (Or.inl e)), if_neg (fun e => h (Or.inr e))]
  rfl

theorem entryM_is {E names : List UInt8} {sections : Int} (h : (E[4]?.getD 0).toNat = 15 ∨ (E[4]?.getD 0).toNat = 3) : entryM E names sections = some (oneM E names sections) := by
  have : ∃ r, entryM E names sections = some r := by
    obtain ⟨s0, is, er, ht⟩ : ∃ s0 is er, toldM (E[4]?.getD 0).toNat (E[5]?.getD 0).toNat (leNat ((E.drop 6).take 2)) (leNat ((E.drop 8).take 8)) sections = (s0, is, er) := ⟨_, _, _, rfl⟩
    have hi : is = true := by
      unfold toldM at ht
      rcases h with h | h
      · rw [h, if_pos rfl] at ht
        split at ht <;> (cases ht; rfl)
      · rw [h, if_neg (by omega), if_pos rfl] at ht
        cases ht; rfl
    rw [entryM_told ht, if_neg (by simp [hi])]
    by_cases he : er ≠ 0
    · rw [if_pos he]; exact ⟨_, rfl⟩
    · rw [if_neg he]
      by_cases hx : (textM names (leNat (E.take 4))).2 ≠ 0
      · rw [if_pos hx]; exact ⟨_, rfl⟩
      · rw [if_neg hx]; exact ⟨_, rfl⟩
  obtain ⟨r, hr⟩ := this
  unfold oneM; rw [hr]; rfl

set_option maxHeartbeats 2000000 in
theorem ref_all (w : World) (p q : Option Addr) (n cap k capk : Nat) (table names : List UInt8) (sections : Int) (ht : BS w (.slice p n cap) table) (hn : BS w (.slice q k capk) names) :
    Calls Try.prog 10 #[.slice p n cap, .slice q k capk, .int .i64 sections] w (AllPost w (tableM table names sections)) := by
  have hl := ht.len
  have hcp := ht.cap
  by_cases hm : n % 16 = 0
  · have hm1 : ((n : Int) % 16 != 0) = false := by simp; omega
    have hM : tableM table names sections = allM names sections (n / 16) table [] := by unfold tableM; rw [if_neg (by omega), hl]
    obtain ⟨M, hMM⟩ : ∃ M, M = tableM table names sections := ⟨_, rfl⟩
    rw [← hMM] at hM ⊢
    have H := hid (And.intro ht (And.intro hn (And.intro hM.symm (And.intro hl hm))))
    clear ht hn hM hMM hl hm
    go_enter Try.func10, Try.ntmps10
    go_wp2_with fail
    go_loopw [8, 9] (fun v8 i9 wr => RAllAt w (.slice p n cap) (.slice q k capk) table names sections M i9 v8 wr) (fun _ i9 _ => n - (intOf i9).toNat)
    case atStart =>
      obtain ⟨ht, hn, hM, hl, hm⟩ := H.out
      exact ⟨0, n / 16, [], ⟨Below.refl _ _, rfl, by omega, World.ownsRow_nil _ _ _ _, by simp, hM⟩⟩
    case round =>
      obtain ⟨o, m, out, R⟩ := hrel
      obtain ⟨a8, c8, rfl⟩ := ownsRow_form R.own
      obtain rfl := R.idx
      have hfew := R.few
      have hszr := R.below.size
      have hnl : n = o + 16 * m := by rw [← R.len]; exact H.out.2.2.2.1.symm
      cases m with
      | zero =>
        have HR := hid R
        have hle : ¬ o < n := by omega
        clear R hnl
        go_wp2
        go_ret2
        have R := HR.out
        have hv := R.val
        unfold allM at hv
        subst hv
        exact ⟨_, rfl, R.own, R.below⟩
      | succ m =>
        obtain ⟨E, hE⟩ : ∃ E, E = (table.drop (o)).take 16 := ⟨_, rfl⟩
        have hEl : E.length = 16 := by rw [hE, List.length_take, List.length_drop, R.len]; omega
        obtain ⟨b, off, hp, hcell⟩ := H.out.1.at (by omega)
        subst hp
        have hbE : BS wr (.slice (subA (some ⟨b, off, none⟩) (o) cap) 16 (cap - o)) E := by
          have ht := H.out.1
          have hl := ht.len
          subst hl
          have := sub_bs ht (lo := o) (hi := o + 16) (m := cap) (by omega) (by omega) (by omega) (Nat.le_refl _)
          rw [Nat.add_sub_cancel_left, ← hE] at this
          exact this.below R.below
        obtain ⟨x4, hx4⟩ : ∃ x, E[4]? = some x := ⟨_, List.getElem?_eq_getElem (by omega)⟩
        obtain ⟨kd, hkd⟩ : ∃ kd, (E[4]?.getD 0).toNat = kd := ⟨_, rfl⟩
        have bkd : kd < 256 := by rw [← hkd]; exact (E[4]?.getD 0).toNat_lt
        have hc4 : wr.cell? ⟨b, off + (o + 4), none⟩ = some (.int .u8 kd) := by
          have ht4 : table[o + 4]? = some x4 := by
            rw [hE, List.getElem?_take_of_lt (by omega), List.getElem?_drop] at hx4; exact hx4
          have := hcell _ _ ht4
          rw [← hkd, hx4]
          exact (R.below.cell (p := ⟨b, off + (o + 4), none⟩) (World.block_lt_of_cell? w _ this)).trans this
        have hval := R.val
        unfold allM at hval
        rw [← hE, List.drop_drop] at hval
        have hlt : o < n := by omega
        have hlt4 : o + 4 < n := by omega
        have hcap : n ≤ cap := hcp.1
        have hsl := fun (w : World) => run_sub2 (P := Try.prog) (w := w) (t := 23) (some ⟨b, off, none⟩) n cap un_bs (sz_u8 w) .i64 .i64 (o : Int) ((o : Int) + 16) (by omega) (by omega) (by omega)
        have hw4 : IntKind.i64.wrap ((o : Int) + 4) = (o : Int) + 4 := IntWalk.i64_in _ (by omega)
        have hbn : BS wr (.slice q k capk) names := H.out.2.1.below R.below
        have HR := hid (And.intro R (And.intro hE (And.intro hEl (And.intro hbE (And.intro hkd (And.intro hval (And.intro bkd hbn)))))))
        clear R hE hEl hbE hkd hval hx4 hcell hnl hbn
        have e1 : ((o : Int) + 16).toNat = o + 16 := by omega
        simp only [Int.toNat_natCast, e1, Nat.add_sub_cancel_left] at hsl
        clear e1
        go_wp2_with fail
        refine (ref_told _ kd HR.out.2.2.2.2.2.2.1).mono ?_
        rintro e w1 ⟨rfl, rfl⟩
        by_cases hkt : kd = 15 ∨ kd = 3
        · rw [decide_eq_true hkt]
          obtain ⟨er, s, hone⟩ : ∃ er s, oneM E names sections = (er, s) := ⟨_, _, rfl⟩
          have hval2 : (if er ≠ 0 then (([], er) : List Sym × Nat) else if out.any (fun x => x.name == s.name) then ([], 21) else if out.length = 4096 then ([], 11) else allM names sections m (table.drop (o + 16)) (out ++ [s])) = M := by
            have h1 := HR.out.2.2.2.2.2.1
            rw [entryM_is (by rw [HR.out.2.2.2.2.1]; exact hkt), hone] at h1
            exact h1
          have Hone := hid (And.intro hone (And.intro hval2 hkt))
          clear hone hval2 hkt
          go_wp2_with fail
          refine (ref_one _ _ q _ k capk E names sections (by exact HR.out.2.2.2.1) (by exact HR.out.2.2.2.2.2.2.2) kd (by exact HR.out.2.2.2.2.1) (by exact Hone.out.2.2)).mono ?_
          rintro e w2 ⟨rfl, hb2⟩
          rw [Hone.out.1]
          have hs2 := hb2.size
          have Hb2 := hid hb2
          clear hb2 hsl
          obtain ⟨nl, ss, sv, sw⟩ := s
          simp only [Sym.cells]
          by_cases he : er = 0
          · subst he
            obtain ⟨Ws, hWs⟩ : ∃ Ws, Ws = w2.alloc (.cells #[.string (mkS nl), .int .i64 ss, .int .u64 sv, .bool sw] 30) := ⟨_, rfl⟩
            have hbs : Below wr.heap.size wr Ws := by rw [hWs]; exact Hb2.out.alloc (by omega) _
            obtain ⟨⟨s0, s1, s2, s3⟩, -⟩ := cur_cells (show Ws.heap[w2.heap.size]? = some _ by rw [hWs]; exact heap_alloc_new w2 _)
            have hos := ownsRow_below HR.out.1.own hbs
            have hzs : Ws.heap.size = w2.heap.size + 1 := by rw [hWs]; simp
            have hzs' : w2.heap.size < Ws.heap.size := by omega
            have Hs := hid (And.intro hbs (And.intro hos hzs))
            clear hbs hos hzs
            go_wp2_with fail
            rw [← hWs]
            clear hWs
            go_loopw [12] (fun i12 wq => ∃ kk q : Nat, kk ≤ out.length ∧ i12 = .int .i64 (kk : Int) ∧ (out.take kk).any (fun x => x.name == nl) = false ∧ wq = Ws.drewN q) (fun i12 _ => out.length - (intOf i12).toNat)
            case atStart => exact ⟨0, 0, Nat.zero_le _, rfl, rfl, rfl⟩
            case round =>
              obtain ⟨kk, q1, hkk, rfl, hany, rfl⟩ := hrel
              have Hany := hid hany
              clear hany
              by_cases hlk : kk < out.length
              · obtain ⟨g, rfl, hg, hgc⟩ := ownsSyms_at Hs.out.2.1 rfl (by omega)
                obtain ⟨sk, hsk⟩ : ∃ sk, out[kk]? = some sk := ⟨_, List.getElem?_eq_getElem hlk⟩
                obtain ⟨g0, -⟩ := hgc kk sk hsk
                have hsnoc : (out.take (kk + 1)).any (fun x => x.name == nl) = (sk.name == nl) := by
                  rw [take_snoc hsk, List.any_append, Hany.out]; simp
                have Hsn := hid (And.intro hsnoc hsk)
                clear hsnoc hsk hgc hg
                obtain ⟨bq, hbq⟩ : ∃ bq, bq = (sk.name == nl) := ⟨_, rfl⟩
                cases bq with
                | true =>
                  have hbq' : (sk.name == nl) = true := hbq.symm
                  clear hbq
                  go_wp2
                  go_quiet (fail)
                  go_wp2
                  go_ret2
                  have hval := Hone.out.2.1
                  have hin : out.any (fun x => x.name == nl) = true := by
                    rw [List.any_eq_true]
                    exact ⟨sk, List.mem_of_getElem? Hsn.out.2, hbq'⟩
                  rw [if_neg (by simp), if_pos hin] at hval
                  rw [← hval]
                  exact AllPost_err (below_drewN (below_drewN (HR.out.1.below.trans (Hs.out.1.mono HR.out.1.below.size)) _) _)
                | false =>
                  have hbq' : (sk.name == nl) = false := hbq.symm
                  clear hbq
                  go_wp2
                  go_quiet (fail)
                  go_wp2
                  go_roundw
                  case rel => exact ⟨kk + 1, _, by omega, by go_num, by rw [Hsn.out.1]; exact hbq', rfl⟩
                  case measure => simp [intOf]; omega
              · obtain rfl : kk = out.length := by omega
                have hany := Hany.out
                rw [List.take_length] at hany
                have hval : (if out.length = 4096 then (([], 11) : List Sym × Nat) else allM names sections m (table.drop (o + 16)) (out ++ [⟨nl, ss, sv, sw⟩])) = M := by
                  have := Hone.out.2.1
                  rw [if_neg (by simp), if_neg (by rw [hany]; simp)] at this
                  exact this
                have Hv := hid hval
                clear hany hval
                by_cases h4 : out.length = 4096
                · have h4' : ((out.length : Int) == 4096) = true := by rw [beq_iff_eq]; omega
                  have H4 := hid h4
                  clear h4
                  go_wp2
                  go_ret2
                  have hval := Hv.out
                  rw [if_pos H4.out] at hval
                  rw [← hval]
                  exact AllPost_err (below_drewN (HR.out.1.below.trans (Hs.out.1.mono HR.out.1.below.size)) _)
                · have h4' : ((out.length : Int) == 4096) = false := by rw [beq_eq_false_iff_ne]; omega
                  have H4 := hid h4
                  clear h4
                  obtain ⟨i0, hi, hz0, hz1, hz2⟩ := info_parts Try.infoSym
                  have Hi := hid (And.intro hi (And.intro hz0 (And.intro hz1 hz2)))
                  clear hi hz0 hz1 hz2
                  go_wp2_with (at_builtin; refine wpList_append_own _ rfl _ _ 24 rfl w.heap.size 30 i0 _ 4 40 un_syms Hi.out.1 Hi.out.2.1 Hi.out.2.2.1 Hi.out.2.2.2 rfl (by decide) _ _ _ rfl (ownsRow_drewN (Hs.out.2.1.alloc _) q1) ⟨Ws.heap.size, 0, none⟩ 1 1 [.string (mkS nl), .int .i64 ss, .int .u64 sv, .bool sw] rfl rfl (fun j u hu => cells_new Ws _ _ j u hu) ?c2 ?c3 ?c4 ?c5 ?_)
                  case c2 => intro u hu; simp at hu; rcases hu with rfl | rfl | rfl | rfl <;> rfl
                  case c3 => exact Nat.le_trans (Nat.add_le_add_right HR.out.1.few 1) (by decide)
                  case c4 => have := HR.out.1.few; omega
                  case c5 => show _ ≤ (Ws.alloc _).heap.size; simp; omega
                  intro v' w5 hown5 hgrow5 _
                  have H5 := hid (And.intro hown5 hgrow5)
                  clear hown5 hgrow5
                  go_wp2
                  obtain ⟨hown5, hgrow5⟩ := H5.out
                  have R := HR.out.1
                  have hval := Hv.out
                  rw [if_neg H4.out] at hval
                  have hlt8 := fun (k : Nat) (hk : Value.ownBlock (.slice a8 out.length c8) = some k) => (Hs.out.2.1.lt k hk)
                  refine ⟨⟨o + 16, m, out ++ [⟨nl, ss, sv, sw⟩], ⟨?_, ?_, ?_, ?_, ?_, hval⟩⟩, by simp [intOf]; omega⟩
                  · refine Below.grown (below_drewN (Below.alloc (R.below.trans (Hs.out.1.mono R.below.size)) (by omega) _) q1) hgrow5 (by show _ ≤ (Ws.alloc _).heap.size; simp; omega) (fun k hk => (hlt8 k hk).1)
                  · rw [Int.natCast_add]; rfl
                  · rw [R.len]; omega
                  · rw [List.length_append, symsCells_snoc]; exact hown5
                  · have := R.few; have := H4.out; simp; omega
          · have hne : ((er : Int) != 0) = true := by rw [bne_iff_ne]; omega
            have He := hid he
            clear he
            go_wp2
            go_ret2
            have hval := Hone.out.2.1
            rw [if_pos He.out] at hval
            rw [← hval]
            exact AllPost_err ((HR.out.1.below.trans (Hb2.out.mono HR.out.1.below.size)).alloc (by omega) _)
        · rw [decide_eq_false hkt]
          have Hkt := hid hkt
          clear hkt hsl
          go_wp2
          have hval := HR.out.2.2.2.2.2.1
          rw [entryM_not (by rw [HR.out.2.2.2.2.1]; exact Hkt.out)] at hval
          have hr := HR.out.1.keep (Below.refl _ _) hval
          exact ⟨⟨o + 16, m, out, hr⟩, by simp [intOf]; omega⟩
  · have hm1 : ((n : Int) % 16 != 0) = true := by simp; omega
    have hM : tableM table names sections = ([], 13) := by unfold tableM; rw [if_pos (by omega)]
    rw [hM]
    clear ht hn hl hcp hM
    go_enter Try.func10, Try.ntmps10
    go_wp2
    go_ret2
    exact ⟨_, rfl, World.ownsRow_nil _ _ _ _, Below.refl _ _⟩

end Go.Proofs.Ytdckfcpjdakjaaa
