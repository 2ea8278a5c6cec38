/- The walk of nlist.All. -/
import Derived.Test.YtdckfcpjdakjaaaNlB
import Derived.Test.YtdckfcpjdakjaaaMap
namespace Go.Proofs.Ytdckfcpjdakjaaa
set_option linter.unusedSimpArgs false
set_option linter.unusedVariables false
open Go.RowKit Go.Maps

theorem Try.infoSym : (Try.prog.info? 30).map (fun i => (i.zero, i.size, i.bytes)) = some (some (.agg #[.string ⟨#[]⟩, .int .i64 0, .int .u64 0, .bool false]), 4, 40) := by kernel_rfl
theorem un_map : Try.prog.underlying 47 = some (.map 9 54) := by kernel_rfl
theorem un_syms : Try.prog.underlying 24 = some (.slice 30) := by kernel_rfl
theorem keyed_str : Keyed Try.prog 9 := string_keyed un_str
theorem zero_is (w : World) : (zeroValue 54).run Try.prog w = .ok (.agg #[.bool false]) w := by kernel_rfl

theorem field_is (b : Bool) (w : World) : (Instr.field 54 (.agg #[.bool b]) 0).run Try.prog w = .ok (.bool b) w := by cases b <;> kernel_rfl

def symsCells (l : List Sym) : List Value := l.flatMap Sym.cells
theorem symsCells_snoc (l : List Sym) (s : Sym) : symsCells (l ++ [s]) = symsCells l ++ s.cells := by simp [symsCells]

/-- What holds at the head of each round. -/
structure AllRel (w : World) (nv : Value) (names : List UInt8) (sections : Int) (M : List Sym × Nat) (t0 v8 : Value) (wr : World) (m : Nat) (T : List UInt8) (out : List Sym) : Prop where
  below : Below w.heap.size w wr
  size : w.heap.size + 1 ≤ wr.heap.size
  tab : BS w t0 T
  len : T.length = 16 * m
  own : wr.ownsRow (w.heap.size + 1) 30 4 v8 out.length (symsCells out)
  map : wr.ownsMap Try.prog 9 isElem w.heap.size out.length (seenD (out.map Sym.name))
  few : out.length ≤ 4096
  val : allM names sections m T out = M

def AllAt (w : World) (nv : Value) (names : List UInt8) (sections : Int) (M : List Sym × Nat) (t0 v8 : Value) (wr : World) : Prop :=
  ∃ m T out, AllRel w nv names sections M t0 v8 wr m T out

def AllPost (w : World) (M : List Sym × Nat) (e : Ending) (w' : World) : Prop :=
  ∃ v, e = .returned (.tuple #[v, .int .i64 M.2]) ∧ w'.ownsRow w.heap.size 30 4 v M.1.length (symsCells M.1) ∧ Below w.heap.size w w'

theorem ownsMap_below {w w' : World} {b n : Nat} {D : DataW Unit} (h : w.ownsMap Try.prog 9 isElem b n D) (hb : Below w.heap.size w w') : w'.ownsMap Try.prog 9 isElem b n D :=
  h.kept (Below.all hb none) (by simp)

theorem AllRel.keep {w : World} {nv : Value} {names : List UInt8} {sections : Int} {M : List Sym × Nat} {t0 v8 : Value} {wr : World} {m : Nat} {T : List UInt8} {out : List Sym}
    (R : AllRel w nv names sections M t0 v8 wr (m + 1) T out) {w' : World} (hb : Below wr.heap.size wr w') {t' : Value} (ht : BS w t' (T.drop 16)) (hv : allM names sections m (T.drop 16) out = M) :
    AllRel w nv names sections M t' v8 w' m (T.drop 16) out :=
  ⟨R.below.trans (hb.mono R.below.size), Nat.le_trans R.size hb.size, ht, by rw [List.length_drop, R.len]; omega, ownsRow_below R.own hb, ownsMap_below R.map hb, R.few, hv⟩

theorem toldM_er {k s d a : Nat} {sections : Int} {s0 : Sym} {er : Nat} (h : toldM k s d a sections = (s0, true, er)) : (er = 0 ∨ er = 13) ∧ (er = 0 → s0.name = []) := by
  unfold toldM at h
  split at h
  · split at h
    · cases h; exact ⟨Or.inr rfl, fun e => by omega⟩
    · cases h; exact ⟨Or.inl rfl, fun _ => rfl⟩
  · split at h
    · cases h; exact ⟨Or.inl rfl, fun _ => rfl⟩
    · cases h

theorem entryM_told {E names : List UInt8} {sections : Int} {s0 : Sym} {is : Bool} {er : Nat} (h : toldM (E[4]?.getD 0).toNat (E[5]?.getD 0).toNat (leNat ((E.drop 6).take 2)) (leNat ((E.drop 8).take 8)) sections = (s0, is, er)) :
    entryM E names sections = if is = false then none else if er ≠ 0 then some (er, Sym.zero) else if (textM names (leNat (E.take 4))).2 ≠ 0 then some ((textM names (leNat (E.take 4))).2, Sym.zero) else some (0, { s0 with name := (textM names (leNat (E.take 4))).1 }) := by
  unfold entryM; rw [h]

theorem ownsRow_row {w w' : World} {base : Nat} {e : TypeId} {size : Nat} {v : Value} {n : Nat} {xs : List Value} (h : w.ownsRow base e size v n xs) {r : Nat} (hg : w.grownBy w' (some r)) (hr : r < base) : w'.ownsRow base e size v n xs :=
  h.kept hg (Or.inr (fun e => by have := (h.lt r e).1; omega))

theorem AllPost_err {w w' : World} {e : Nat} (hb : Below w.heap.size w w') : AllPost w ([], e) (.returned (.tuple #[.slice none 0 0, .int .i64 e])) w' :=
  ⟨_, rfl, World.ownsRow_nil _ _ _ _, hb⟩

theorem textM_er (l : List UInt8) (a : Nat) : ((textM l a).2 = 0 ∨ (textM l a).2 = 13 ∨ (textM l a).2 = 10) ∧ (textM l a).1.length ≤ 255 := by
  unfold textM
  split
  · exact ⟨Or.inr (Or.inl rfl), by simp⟩
  · split
    · exact ⟨Or.inr (Or.inl rfl), by simp⟩
    · split
      · exact ⟨Or.inr (Or.inr rfl), by simp⟩
      · rename_i h
        refine ⟨Or.inl rfl, ?_⟩
        show (List.take (nul (l.drop a)) (l.drop a)).length ≤ 255
        rw [List.length_take]; omega

set_option maxHeartbeats 2000000 in
theorem nl_all (w : World) (p q : Option Addr) (n cap k capk : Nat) (table names : List UInt8) (sections : Int) (ht : BS w (.slice p n cap) table) (hn : BS w (.slice q k capk) names) :
    Calls Try.prog 8 #[.slice p n cap, .slice q k capk, .int .i64 sections] w (AllPost w (tableM table names sections)) := by
  have hl := ht.len
  have hcp := ht.cap
  by_cases hm : n % 16 = 0
  · have hm1 : ((n : Int) % 16 != 0) = false := by simp; omega
    have hmk := @run_makeMap Try.prog
    have hfd := field_is
    have hM : tableM table names sections = allM names sections (n / 16) table [] := by unfold tableM; rw [if_neg (by omega), hl]
    obtain ⟨M, hMM⟩ : ∃ M, M = tableM table names sections := ⟨_, rfl⟩
    rw [← hMM] at hM ⊢
    have H := hid (And.intro ht (And.intro hn (And.intro hM.symm (And.intro hl hm))))
    clear ht hn hM hMM hl hm hcp
    go_enter Try.func8, Try.ntmps8
    go_wp2_with fail
    go_loopw [0, 8] (fun t0 v8 wr => AllAt w (.slice q k capk) names sections M t0 v8 wr) (fun t0 _ _ => slLen t0)
    case atStart =>
      obtain ⟨ht, hn, hM, hl, hm⟩ := H.out
      exact ⟨n / 16, table, [], ⟨(Below.refl _ _).alloc (Nat.le_refl _) _, by simp, ht, by omega, World.ownsRow_nil _ _ _ _, World.ownsMap_made _ _ _ _, by simp, hM⟩⟩
    case round =>
      obtain ⟨m, T, out, R⟩ := hrel
      obtain ⟨p0, c0, rfl⟩ := R.tab.form R.len
      obtain ⟨a8, c8, rfl⟩ := ownsRow_form R.own
      have hcp := R.tab.cap
      have hfew := R.few
      have hszr := R.size
      cases m with
      | zero =>
        have HR := hid R
        clear R
        go_wp2
        go_ret2
        have R := HR.out
        have hv := R.val
        unfold allM at hv
        subst hv
        exact ⟨_, rfl, ownsRow_base R.own (by omega), R.below⟩
      | succ m =>
        obtain ⟨E, hE⟩ : ∃ E, E = T.take 16 := ⟨_, rfl⟩
        have hb16 : BS wr (.slice p0 16 16) E := by rw [hE]; exact (pre_bs R.tab (hi := 16) (m := 16) (by omega) (Nat.le_refl _) (by omega)).below R.below
        have hl16 : E.length = 16 := by rw [hE, List.length_take, R.len]; omega
        have hsl := fun (w : World) => run_subhm (P := Try.prog) (w := w) (t := 23) p0 (16 * (m + 1)) c0 un_bs (sz_u8 w) .i64 .i64 16 16 (by omega) (by omega) (by omega)
        have hdr := fun (w : World) => run_subl (P := Try.prog) (w := w) (t := 23) p0 (16 * (m + 1)) c0 un_bs (sz_u8 w) .i64 16 (by omega) (by omega)
        have hnext : BS w (.slice (subA p0 16 c0) (16 * m) (c0 - 16)) (T.drop 16) := by
          have := drop_bs R.tab (lo := 16) (by omega)
          rwa [show 16 * (m + 1) - 16 = 16 * m by omega] at this
        have hlen16 : (0 : Int) < ((16 * (m + 1) : Nat) : Int) := by omega
        have HR := hid (And.intro R (And.intro hb16 (And.intro hl16 (And.intro hE hnext))))
        clear R hb16 hl16 hE hnext
        go_wp2_with fail
        refine (nl_read _ p0 16 16 E HR.out.2.1 HR.out.2.2.1).mono ?_
        rintro e w1 ⟨rfl, hb1⟩
        obtain ⟨nm, hnm⟩ : ∃ nm, nm = leNat (E.take 4) := ⟨_, rfl⟩
        obtain ⟨kd, hkd⟩ : ∃ kd, kd = (E[4]?.getD 0).toNat := ⟨_, rfl⟩
        obtain ⟨sc, hsc⟩ : ∃ sc, sc = (E[5]?.getD 0).toNat := ⟨_, rfl⟩
        obtain ⟨de, hde⟩ : ∃ de, de = leNat ((E.drop 6).take 2) := ⟨_, rfl⟩
        obtain ⟨ad, had⟩ : ∃ ad, ad = leNat ((E.drop 8).take 8) := ⟨_, rfl⟩
        rw [← hnm, ← hkd, ← hsc, ← hde, ← had]
        obtain ⟨⟨sn, ss, sv, sw⟩, is, er, htold⟩ : ∃ s0 is er, toldM kd sc de ad sections = (s0, is, er) := ⟨_, _, _, rfl⟩
        have bkd : kd < 256 := by rw [hkd]; exact (E[4]?.getD 0).toNat_lt
        have bsc : sc < 256 := by rw [hsc]; exact (E[5]?.getD 0).toNat_lt
        have bde : de < 2 ^ 16 := by
          rw [hde]; refine Nat.lt_of_lt_of_le (leNat_lt _) ?_
          have : ((E.drop 6).take 2).length ≤ 2 := List.length_take_le _ _
          exact Nat.le_trans (Nat.pow_le_pow_right (by omega) this) (by decide)
        have bnm : nm < 2 ^ 64 := by
          rw [hnm]; refine Nat.lt_of_lt_of_le (leNat_lt _) ?_
          have : (E.take 4).length ≤ 4 := List.length_take_le _ _
          exact Nat.le_trans (Nat.pow_le_pow_right (by omega) this) (by decide)
        have hs1 := hb1.size
        have Hb1 := hid (And.intro hb1 (And.intro hnm (And.intro hkd (And.intro hsc (And.intro hde (And.intro had (And.intro htold (And.intro bkd (And.intro bsc (And.intro bde bnm))))))))))
        clear hb1 hnm hkd hsc hde had htold bkd bsc bde bnm
        go_wp2_with fail
        have htc := nl_told (w1.alloc (.cells #[.int .u64 nm, .int .i64 kd, .int .i64 sc, .int .u64 de, .int .u64 ad] 49)) nm kd sc de ad sections Hb1.out.2.2.2.2.2.2.2.1 Hb1.out.2.2.2.2.2.2.2.2.2.1 Hb1.out.2.2.2.2.2.2.2.2.1
        rw [Hb1.out.2.2.2.2.2.2.1] at htc
        simp only [Sym.cells] at htc
        refine htc.mono ?_
        clear htc
        rintro e w2 ⟨rfl, hb2⟩
        have hs2 := hb2.size
        simp only [World.size_alloc] at hs2
        have hx2 : w2.cell? ⟨w1.heap.size, 0, none⟩ = some (.int .u64 nm) := (hb2.cell (by simp)).trans (by rw [World.cell?_alloc_at _ _ _ _ rfl]; rfl)
        have hb12 : Below wr.heap.size wr w2 := (Hb1.out.1.alloc hs1 _).trans (hb2.mono (by simp; omega))
        have hbw2 : Below w.heap.size w w2 := HR.out.1.below.trans (hb12.mono HR.out.1.below.size)
        have hent := entryM_told (names := names) (s0 := ⟨sn, ss, sv, sw⟩) (is := is) (er := er) (by rw [← Hb1.out.2.2.1, ← Hb1.out.2.2.2.1, ← Hb1.out.2.2.2.2.1, ← Hb1.out.2.2.2.2.2.1]; exact Hb1.out.2.2.2.2.2.2.1)
        rw [← Hb1.out.2.1, HR.out.2.2.2.1] at hent
        have hval := HR.out.1.val
        unfold allM at hval
        rw [hent] at hval
        have Hb2 := hid (And.intro hb12 (And.intro hbw2 hval))
        clear hb2 hb12 hbw2 hent hval
        cases is with
        | false =>
          go_wp2
          obtain ⟨R, -, -, hE, hnext⟩ := HR.out
          obtain ⟨hb12, hbw2, hval⟩ := Hb2.out
          refine ⟨⟨m, T.drop 16, out, R.keep (hb12.alloc (by omega) _) (by rw [show 16 * (m + 1) - 16 = 16 * m by omega]; exact hnext) hval⟩, by show 16 * (m + 1) - 16 < 16 * (m + 1); omega⟩
        | true =>
          obtain ⟨her, hsn⟩ := toldM_er Hb1.out.2.2.2.2.2.2.1
          rcases her with rfl | rfl
          · have hsn0 : sn = [] := hsn rfl
            subst hsn0
            clear hsn
            obtain ⟨nl, e2, htext⟩ : ∃ nl e2, textM names nm = (nl, e2) := ⟨_, _, rfl⟩
            have hte := textM_er names nm
            rw [htext] at hte
            obtain ⟨hte, hnl⟩ := hte
            have htx := nl_text (w2.alloc (.cells #[.string (mkS []), .int .i64 ss, .int .u64 sv, .bool sw] 30)) q k capk names nm (H.out.2.1.below (Hb2.out.2.1.alloc (Nat.le_trans HR.out.1.below.size (by omega)) _)) Hb1.out.2.2.2.2.2.2.2.2.2.2
            rw [htext] at htx
            have hx3 : (w2.alloc (.cells #[.string (mkS []), .int .i64 ss, .int .u64 sv, .bool sw] 30)).cell? ⟨w1.heap.size, 0, none⟩ = some (.int .u64 nm) := by
              rw [World.cell?_alloc_past _ _ _ (by show w1.heap.size < w2.heap.size; omega)]; exact hx2
            have Htx := hid htx
            have Hte := hid (And.intro htext hnl)
            clear htx htext hnl
            go_wp2_with fail
            refine (Htx.out).mono ?_
            rintro e w3 ⟨rfl, rfl⟩
            rcases hte with rfl | rfl | rfl
            · have hb3 : Below wr.heap.size wr (w2.alloc (.cells #[.string (mkS nl), .int .i64 ss, .int .u64 sv, .bool sw] 30)) := Hb2.out.1.alloc (by omega) _
              have hkey : keyOf Try.prog 9 (.string (mkS nl)) = some (.string nl) := WideMaps.keyOf_string_mk un_str (by rw [mkS_size]; exact Nat.le_trans Hte.out.2 (by decide))
              have hmap3 := ownsMap_below HR.out.1.map hb3
              have hlk := seen_look hmap3 keyed_str un_map (zero_is _) hkey
              obtain ⟨seen, hseen⟩ : ∃ seen, seen = (out.map Sym.name).any (· == nl) := ⟨_, rfl⟩
              rw [← hseen] at hlk
              have hval : (if out.any (fun x => x.name == nl) then (([], 21) : List Sym × Nat) else if out.length = 4096 then ([], 11) else allM names sections m (T.drop 16) (out ++ [⟨nl, ss, sv, sw⟩])) = M := by
                have := Hb2.out.2.2
                rw [Hte.out.1] at this
                exact this
              have hsn2 : out.any (fun x => x.name == nl) = seen := by rw [hseen, List.any_map]; rfl
              rw [hsn2] at hval
              have H3 := hid (And.intro hb3 (And.intro hmap3 (And.intro hkey hval)))
              clear hb3 hmap3 hkey hval hsn2 hseen
              cases seen with
              | true =>
                go_wp2
                go_ret2
                obtain ⟨-, -, -, hval⟩ := H3.out
                have hval : (([], 21) : List Sym × Nat) = M := by simpa using hval
                rw [← hval]
                exact AllPost_err (Hb2.out.2.1.alloc (Nat.le_trans HR.out.1.below.size (by omega)) _)
              | false =>
                by_cases h4 : out.length = 4096
                · have h4' : ((out.length : Int) == 4096) = true := by rw [beq_iff_eq]; omega
                  have H4 := hid h4
                  clear h4
                  go_wp2
                  go_ret2
                  obtain ⟨-, -, -, hval⟩ := H3.out
                  have hval : (([], 11) : List Sym × Nat) = M := by simpa [H4.out] using hval
                  rw [← hval]
                  exact AllPost_err (Hb2.out.2.1.alloc (Nat.le_trans HR.out.1.below.size (by omega)) _)
                · have h4' : ((out.length : Int) == 4096) = false := by rw [beq_eq_false_iff_ne]; omega
                  have H4 := hid h4
                  clear h4
                  obtain ⟨i0, hi, hz0, hz1, hz2⟩ := info_parts Try.infoSym
                  have Hi := hid (And.intro hi (And.intro hz0 (And.intro hz1 hz2)))
                  clear hi hz0 hz1 hz2
                  go_wp2_with (first
                    | (at_mapUpdate; refine wpList_mapUpdate_own _ rfl _ _ _ 47 rfl 9 54 keyed_str un_map isElem w.heap.size out.length (seenD (out.map Sym.name)) rfl H3.out.2.1 (Nat.lt_of_le_of_lt HR.out.1.few (by decide)) _ _ (.string nl) rfl rfl H3.out.2.2.1 (.agg [.lit (.bool true)]) [] (isElem_mk true) ?_; intro w4 hown4 hgrow4; obtain ⟨⟨q0, q1, q2, q3⟩, -⟩ := cur_cells ((hgrow4.block w2.heap.size (by simp) (by simp; omega)).trans (heap_alloc_new w2 _)); have hsz4 : w2.heap.size + 1 ≤ w4.heap.size := (by have h4 := hgrow4.size; simpa using h4); have HM := hid (And.intro hown4 (And.intro hgrow4 (ownsRow_row (ownsRow_below HR.out.1.own H3.out.1) hgrow4 (by omega)))); clear hown4 hgrow4)
                    | (at_builtin; refine wpList_append_own _ rfl _ _ 24 rfl (w.heap.size + 1) 30 i0 _ 4 40 un_syms Hi.out.1 Hi.out.2.1 Hi.out.2.2.1 Hi.out.2.2.2 rfl (by decide) _ _ _ rfl (HM.out.2.2.alloc _) ⟨w4.heap.size, 0, none⟩ 1 1 [.string (mkS nl), .int .i64 ss, .int .u64 sv, .bool sw] rfl rfl (cells_new _ _ _) ?c2 ?c3 ?c4 ?c5 ?_))
                  case c2 => intro u hu; simp at hu; rcases hu with rfl | rfl | rfl | rfl <;> rfl
                  case c3 => exact Nat.le_trans (Nat.add_le_add_right HR.out.1.few 1) (by decide)
                  case c4 => have := HR.out.1.few; omega
                  case c5 => simp; omega
                  intro v' w5 hown5 hgrow5 _
                  have H5 := hid (And.intro hown5 hgrow5)
                  clear hown5 hgrow5
                  go_wp2
                  obtain ⟨hown5, hgrow5⟩ := H5.out
                  obtain ⟨hown4, hgrow4, hown8⟩ := HM.out
                  obtain ⟨R, -, -, hE, hnext⟩ := HR.out
                  obtain ⟨hb3, -, -, hval⟩ := H3.out
                  have hv : allM names sections m (T.drop 16) (out ++ [⟨nl, ss, sv, sw⟩]) = M := by simpa [H4.out] using hval
                  have hlt8 := fun (k : Nat) (hk : some k = Value.ownBlock (.slice a8 out.length c8)) => (hown8.lt k hk.symm)
                  refine ⟨⟨m, T.drop 16, out ++ [⟨nl, ss, sv, sw⟩], ⟨?_, ?_, ?_, ?_, ?_, ?_, ?_, hv⟩⟩, by show 16 * (m + 1) - 16 < 16 * (m + 1); omega⟩
                  · refine Below.grown (Below.alloc (Below.grownBy (R.below.trans (hb3.mono R.below.size)) hgrow4 (Nat.le_refl _) (by simp; omega)) (by omega) _) hgrow5 (by simp; omega) (fun k hk => by have := (hlt8 k hk.symm).1; omega)
                  · have := hgrow5.size; simp at this; omega
                  · rw [show 16 * (m + 1) - 16 = 16 * m by omega]; exact hnext
                  · rw [List.length_drop, R.len]; omega
                  · rw [List.length_append, symsCells_snoc]; exact hown5
                  · rw [List.length_append, List.map_append]
                    show World.ownsMap _ _ _ _ _ _ (seenD (List.map Sym.name out ++ [nl]))
                    rw [seenD_snoc]
                    exact (hown4.alloc _).kept hgrow5 (fun e => by have := (hlt8 _ e).1; omega)
                  · have := R.few; have := H4.out; simp; omega
            · go_wp2
              go_ret2
              obtain ⟨hb12, hbw2, hval⟩ := Hb2.out
              rw [Hte.out.1] at hval
              have hval : ([], 13) = M := hval
              rw [← hval]
              exact AllPost_err (hbw2.alloc (Nat.le_trans HR.out.1.below.size (by omega)) _)
            · go_wp2
              go_ret2
              obtain ⟨hb12, hbw2, hval⟩ := Hb2.out
              rw [Hte.out.1] at hval
              have hval : ([], 10) = M := hval
              rw [← hval]
              exact AllPost_err (hbw2.alloc (Nat.le_trans HR.out.1.below.size (by omega)) _)
          · go_wp2
            go_ret2
            obtain ⟨hb12, hbw2, hval⟩ := Hb2.out
            have hval : ([], 13) = M := hval
            rw [← hval]
            exact AllPost_err (hbw2.alloc (Nat.le_trans HR.out.1.below.size (by omega)) _)
  · have hm1 : ((n : Int) % 16 != 0) = true := by simp; omega
    have hM : tableM table names sections = ([], 13) := by unfold tableM; rw [if_pos (by omega)]
    rw [hM]
    clear ht hn hl hcp hM
    go_enter Try.func8, Try.ntmps8
    go_wp2
    go_ret2
    exact ⟨_, rfl, World.ownsRow_nil _ _ _ _, Below.refl _ _⟩

end Go.Proofs.Ytdckfcpjdakjaaa
