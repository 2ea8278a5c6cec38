/- The walk of nlist.Make. -/
import Derived.Test.YtdckfcpjdakjaaaPut
import Derived.Test.YtdckfcpjdakjaaaMay
import Derived.Deep.DeepCutAuto
namespace Go.Proofs.Ytdckfcpjdakjaaa
set_option linter.unusedSimpArgs false
set_option linter.unusedVariables false
open Go.RowKit Go.Maps

theorem Grew.keep {w w' : World} {v v' : Value} (h : Grew w w' v v') {X : Nat} {o : Obj} (hX : w.heap[X]? = some o) (hne : v.ownBlock ≠ some X) : w'.heap[X]? = some o ∧ v'.ownBlock ≠ some X := by
  have hlt : X < w.heap.size := (Array.getElem?_eq_some_iff.1 hX).1
  refine ⟨(h.block hlt hne).trans hX, fun e => ?_⟩
  rcases h.lies with h1 | ⟨j, h1, h2⟩
  · exact hne (h1.symm.trans e)
  · rw [h1] at e; cases e; omega

theorem Grew.far {w w' : World} {v v' : Value} (h : Grew w w' v v') {X : Nat} (hX : X < w.heap.size) (hne : v.ownBlock ≠ some X) : v'.ownBlock ≠ some X := by
  intro e
  rcases h.lies with h1 | ⟨j, h1, h2⟩
  · exact hne (h1.symm.trans e)
  · rw [h1] at e; cases e; omega

theorem OB.row {w w' : World} {base : Nat} {e : TypeId} {v : Value} {l : List UInt8} (h : OB w base e v l) {r : Nat} (hg : w.grownBy w' (some r)) (hr : v.ownBlock ≠ some r) : OB w' base e v l :=
  World.ownsRow.kept h hg (.inr hr)

/-- A symbol lies alone in a block. -/
def SymBlk (W : World) (X : Nat) (nm : List UInt8) (sect : Int) (val : Nat) (wk : Bool) : Prop := W.heap[X]? = some (.cells #[.string (mkS nm), .int .i64 sect, .int .u64 val, .bool wk] 30 (0, 0))

/-- What holds between two puts: the slice has taken v0's place; the symbol in hand is as it was. -/
structure PutSt (w0 W : World) (base : Nat) (v0 v : Value) (xs : List UInt8) (X : Nat) (nm : List UInt8) (sect : Int) (val : Nat) (wk : Bool) : Prop where
  grew : Grew w0 W v0 v
  own : OB W base 5 v xs
  blk : SymBlk W X nm sect val wk
  far : v.ownBlock ≠ some X
  base : base ≤ W.heap.size

theorem nl_put_st {w0 W : World} {base : Nat} {v0 v : Value} {xs : List UInt8} {X : Nat} {nm : List UInt8} {sect : Int} {val : Nat} {wk : Bool} (h : Hid (PutSt w0 W base v0 v xs X nm sect val wk)) (n size : Nat) (m : Int) (hm : m = size) (hs : size ≤ 8) (hn : n < 2 ^ 64) (hlen : xs.length + size ≤ 140737488355328) :
    Calls Try.prog 28 #[v, .int .u64 n, .int .i64 m] W fun e w' => ∃ v', e = .returned v' ∧ Hid (PutSt w0 w' base v0 v' (xs ++ leB n size) X nm sect val wk) ∧
      (w'.cell? ⟨X, 0, none⟩ = some (.string (mkS nm)) ∧ w'.cell? ⟨X, 1, none⟩ = some (.int .i64 sect) ∧ w'.cell? ⟨X, 2, none⟩ = some (.int .u64 val) ∧ w'.cell? ⟨X, 3, none⟩ = some (.bool wk)) := by
  subst hm
  have h := h.out
  refine (nl_put W base v xs n size _ rfl hs hn h.own hlen h.base).mono ?_
  rintro e w' ⟨v', rfl, hown, hg⟩
  obtain ⟨h1, h2⟩ := hg.keep h.blk h.far
  exact ⟨v', rfl, hid ⟨h.grew.trans hg, hown, h1, h2, Nat.le_trans h.base hg.size⟩, (cur_cells h1).1⟩

/-- What holds at the head of each round. -/
structure MkRel (w wr : World) (l : List Sym) (tv nv : Value) (k : Nat) (T N : List UInt8) : Prop where
  le : k ≤ l.length
  below : Below w.heap.size w wr
  size : w.heap.size + 2 ≤ wr.heap.size
  eq : tabN (l.take k) = (T, N)
  tab : OB wr w.heap.size 5 tv T
  nam : OB wr w.heap.size 5 nv N
  apart : Apart tv nv
  map : wr.ownsMap Try.prog 9 isElem (w.heap.size + 1) k (seenD ((l.take k).map Sym.name))
  tfar : tv.ownBlock ≠ some (w.heap.size + 1)
  nfar : nv.ownBlock ≠ some (w.heap.size + 1)
  ok : ∀ s ∈ l.take k, mayM s = true

def MkAt (w wr : World) (l : List Sym) (tv nv i : Value) : Prop := ∃ (k : Nat) (T N : List UInt8), i = .int .i64 (k : Int) ∧ MkRel w wr l tv nv k T N

theorem MkRel.lens {w wr : World} {l : List Sym} {tv nv : Value} {k : Nat} {T N : List UInt8} (R : MkRel w wr l tv nv k T N) : T.length = 16 * k ∧ 1 ≤ N.length ∧ N.length ≤ 256 * k + 1 := by
  have h1 := tabN_len1 (l.take k)
  have h2 := tabN_len2 (l.take k) (fun s hs => by have := R.ok s hs; unfold mayM at this; exact (of_decide_eq_true this).2.1)
  have hl : (l.take k).length = k := by rw [List.length_take]; have := R.le; omega
  rw [R.eq, hl] at h1 h2
  exact ⟨h1, h2⟩

def MakePost (w : World) (M : List UInt8 × List UInt8 × Nat) (e : Ending) (w' : World) : Prop :=
  ∃ v1 v2, e = .returned (.tuple #[v1, v2, .int .i64 M.2.2]) ∧ OB w' w.heap.size 5 v1 M.1 ∧ OB w' w.heap.size 5 v2 M.2.1 ∧ Below w.heap.size w w'

theorem MakePost_err {w w' : World} {n : Nat} (hb : Below w.heap.size w w') : MakePost w ([], [], n) (.returned (.tuple #[.slice none 0 0, .slice none 0 0, .int .i64 n])) w' :=
  ⟨_, _, rfl, OB.nil _ _ _, OB.nil _ _ _, hb⟩

theorem mayM_inv {s : Sym} (h : mayM s = true) : (1 ≤ s.name.length ∧ s.name.length ≤ 255 ∧ nul s.name = s.name.length) ∧ 0 ≤ s.sect ∧ s.sect ≤ 255 := by
  unfold mayM at h
  have := of_decide_eq_true h
  exact ⟨⟨this.1, this.2.1, this.2.2.1⟩, this.2.2.2⟩

set_option maxHeartbeats 4000000 in
theorem nl_make (w : World) (p : Option Addr) (cap : Nat) (l : List Sym) (h : SS w (.slice p l.length cap) l) (hl : l.length ≤ 5000) (hv : ∀ s ∈ l, s.val < 2 ^ 64) :
    Calls Try.prog 16 #[.slice p l.length cap] w (MakePost w (makeM l)) := by
  obtain ⟨i, R⟩ := u8row
  have hmk := @run_makeMap Try.prog
  have H := hid (And.intro R (And.intro h hv))
  clear R h hv
  go_enter Try.func16, Try.ntmps16
  go_wp2_with fail
  go_loopw [5, 6, 16] (fun tv nv i wr => MkAt w wr l tv nv i) (fun _ _ i _ => l.length - (intOf i).toNat)
  case atStart =>
    refine ⟨0, [], [0], rfl, Nat.zero_le _, ?_, ?_, rfl, OB.nil _ _ _, ?_, Apart.nil _, ?_, ?_, ?_, ?_⟩
    · exact ((Below.refl _ _).alloc (Nat.le_refl _) _).alloc (by simp) _
    · simp
    · exact (OB.laid w [0] (by decide)).below ((Below.refl _ _).alloc (Nat.le_refl _) _)
    · have := fun _ : Unit => World.ownsMap_made (w.alloc (.cells #[.int .u8 0] 5)) Try.prog 9 isElem
      simp only [World.size_alloc] at this
      exact this ()
    · intro e; cases e
    · intro e; simp [Value.ownBlock] at e
    · intro s hs; simp at hs
  case round =>
    obtain ⟨k, T, N, rfl, R⟩ := hrel
    have HL := hid R.lens
    have hTl : T.length ≤ 80000 := by have := HL.out; have := R.le; omega
    have hNl : N.length ≤ 1300000 := by have := HL.out; have := R.le; omega
    have hNw : IntKind.u64.wrap (N.length : Int) = N.length := IntWalk.u64_in _ (by omega)
    have hk := R.le
    have hsz := R.size
    obtain ⟨na, nc, rfl⟩ := R.nam.form
    by_cases hlt : k < l.length
    · obtain ⟨g, off, rfl, hcs⟩ := (H.out.2.1.below R.below).at (by omega)
      obtain ⟨⟨nm, sect, val, wk⟩, hs⟩ : ∃ s, l[k]? = some s := ⟨_, List.getElem?_eq_getElem hlt⟩
      obtain ⟨x0, x1, x2, x3⟩ := hcs k _ hs
      have hsv : val < 2 ^ 64 := H.out.2.2 _ (List.mem_of_getElem? hs)
      have HR := hid (And.intro R hs)
      clear R hs hcs
      go_wp2_with fail
      refine (nl_may _ nm sect val wk).mono ?_
      rintro e w1 ⟨rfl, hb1⟩
      have hX : SymBlk w1 wr.heap.size nm sect val wk := (hb1.block _ (by simp)).trans (heap_alloc_new wr _)
      have hz1 : wr.heap.size + 1 ≤ w1.heap.size := by have := hb1.size; simpa using this
      have hbw : Below wr.heap.size wr w1 := ((Below.refl _ _).alloc (Nat.le_refl _) _).trans (hb1.mono (by simp))
      obtain ⟨⟨k0, k1, k2, k3⟩, hfz⟩ := cur_cells hX
      have H1 := hid (And.intro hX hbw)
      clear hb1 hX hbw x0 x1 x2 x3
      cases hm : mayM ⟨nm, sect, val, wk⟩ with
      | false =>
        have Hm := hid hm
        clear hm
        go_wp2_with fail
        go_ret3
        have hM : makeM l = ([], [], 2) := by
          unfold makeM
          rw [if_pos (List.any_eq_true.2 ⟨_, List.mem_of_getElem? HR.out.2, by rw [Hm.out]; rfl⟩)]
        rw [hM]
        exact MakePost_err (HR.out.1.below.trans (H1.out.2.mono HR.out.1.below.size))
      | true =>
        obtain ⟨⟨m1, m2, m3⟩, m4, m5⟩ := mayM_inv hm
        simp only at m1 m2 m3 m4 m5
        obtain ⟨sn, rfl⟩ := Int.eq_ofNat_of_zero_le m4
        have Hm := hid (And.intro hm m3)
        have hsw : IntKind.u64.wrap (sn : Int) = sn := IntWalk.u64_in _ (by omega)
        clear hm m3
        obtain ⟨kn, hkn⟩ : ∃ kn, kn = (Sym.mk nm sn val wk).kindN := ⟨_, rfl⟩
        obtain ⟨dn, hdn⟩ : ∃ dn, dn = (Sym.mk nm sn val wk).descN := ⟨_, rfl⟩
        have hkb : kn ≤ 15 := by rw [hkn]; unfold Sym.kindN; split <;> omega
        have hdb : dn ≤ 128 := by rw [hdn]; unfold Sym.descN; split <;> omega
        have Hk := hid hkn
        have Hd := hid hdn
        clear hkn hdn
        go_upto_if 25 with fail
        go_cut [10] (fun kd wx => kd = .int .u64 (kn : Int) ∧ w1 = wx)
        case first =>
          by_cases h0 : 0 < (sn : Int)
          · have hk15 : kn = 15 := by rw [Hk.out]; unfold Sym.kindN; rw [if_pos h0]
            have Hk15 := hid hk15
            clear hk15
            go_wp2_with fail
            go_meet
            exact ⟨by rw [Hk15.out]; rfl, rfl⟩
          · have hk3 : kn = 3 := by rw [Hk.out]; unfold Sym.kindN; rw [if_neg h0]
            have Hk3 := hid hk3
            clear hk3
            go_wp2_with fail
            go_meet
            exact ⟨by rw [Hk3.out]; rfl, rfl⟩
        case rest =>
          obtain ⟨rfl, rfl⟩ := hcut
          go_upto_if 27 with fail
          go_cut [11] (fun dd wx => dd = .int .u64 (dn : Int) ∧ w1 = wx)
          case first =>
            cases wk with
            | true =>
              have hd1 : dn = 128 := by rw [Hd.out]; rfl
              have Hd1 := hid hd1
              clear hd1
              go_wp2_with fail
              go_meet
              exact ⟨by rw [Hd1.out]; rfl, rfl⟩
            | false =>
              have hd1 : dn = 0 := by rw [Hd.out]; rfl
              have Hd1 := hid hd1
              clear hd1
              go_wp2_with fail
              go_meet
              exact ⟨by rw [Hd1.out]; rfl, rfl⟩
          case rest =>
            obtain ⟨rfl, rfl⟩ := hcut
            have hob := HR.out.1.tab.below H1.out.2
            have P0 : Hid (PutSt w1.drew w1.drew w.heap.size _ _ _ wr.heap.size nm sn val wk) := hid (PutSt.mk (Grew.refl _ _) hob H1.out.1 (fun e => by have := HR.out.1.tab.lt _ e; omega) (by omega : w.heap.size ≤ w1.heap.size))
            go_wp2_with fail
            go_region_held3 (fun w' => w'.cell? ⟨wr.heap.size, 0, none⟩ = some (.string (mkS nm)) ∧ w'.cell? ⟨wr.heap.size, 1, none⟩ = some (.int .i64 (sn : Int)) ∧ w'.cell? ⟨wr.heap.size, 2, none⟩ = some (.int .u64 (val : Int)) ∧ w'.cell? ⟨wr.heap.size, 3, none⟩ = some (.bool wk)) (simp [*])
              (first
                | (go_at_call 28; (with_reducible refine (nl_put_st P0 N.length 4 4 rfl (by omega) (by omega) (by omega)).mono ?_); rintro e w2 ⟨v2, rfl, P2, k0, k1, k2, k3⟩)
                | (go_at_call 28; (with_reducible refine (nl_put_st P2 kn 1 1 rfl (by omega) (by omega) (by simp [leB_length]; omega)).mono ?_); rintro e w3 ⟨v3, rfl, P3, k0, k1, k2, k3⟩)
                | (go_at_call 28; (with_reducible refine (nl_put_st P3 sn 1 1 rfl (by omega) (by omega) (by simp [leB_length]; omega)).mono ?_); rintro e w4 ⟨v4, rfl, P4, k0, k1, k2, k3⟩)
                | (go_at_call 28; (with_reducible refine (nl_put_st P4 dn 2 2 rfl (by omega) (by omega) (by simp [leB_length]; omega)).mono ?_); rintro e w5 ⟨v5, rfl, P5, k0, k1, k2, k3⟩)
                | (go_at_call 28; (with_reducible refine (nl_put_st P5 val 8 8 rfl (by omega) (by omega) (by simp [leB_length]; omega)).mono ?_); rintro e w6 ⟨v6, rfl, P6, k0, k1, k2, k3⟩)
                | fail "no put")
            clear hob
            obtain ⟨P, -⟩ : PutSt w1.drew w6 w.heap.size u5 v6 (T ++ leB N.length 4 ++ leB kn 1 ++ leB sn 1 ++ leB dn 2 ++ leB val 8) wr.heap.size nm sn val wk ∧ True := ⟨P6.out, trivial⟩
            have hz6 : w1.heap.size ≤ w6.heap.size := P.grew.size
            have hap := HR.out.1.apart
            have hnam0 : OB w1 w.heap.size 5 (.slice na N.length nc) N := HR.out.1.nam.below H1.out.2
            have hnam1 : OB w1.drew w.heap.size 5 (.slice na N.length nc) N := hnam0
            have hnam6 := hnam1.own P.grew hap.symm
            have hap6 : Apart v6 (.slice na N.length nc) := (P.grew.apart hnam1 hap.symm).symm
            have hmap0 : w1.ownsMap Try.prog 9 isElem (w.heap.size + 1) k (seenD ((l.take k).map Sym.name)) := ownsMap_below HR.out.1.map H1.out.2
            have hmap1 : w1.drew.ownsMap Try.prog 9 isElem (w.heap.size + 1) k (seenD ((l.take k).map Sym.name)) := hmap0
            have hmap6 := hmap1.kept P.grew.by_ (fun e => HR.out.1.tfar e.symm)
            have hfar6 : v6.ownBlock ≠ some (w.heap.size + 1) := P.grew.far (by show w.heap.size + 1 < w1.heap.size; omega) HR.out.1.tfar
            have hnX : (Value.slice na N.length nc).ownBlock ≠ some wr.heap.size := fun e => by have := HR.out.1.nam.lt _ e; omega
            have hbw6 : Below w.heap.size w w6 := by
              have h1 : Below w.heap.size w w1.drew := below_drewN (HR.out.1.below.trans (H1.out.2.mono HR.out.1.below.size)) 1
              exact h1.trans (P.grew.below (by show w.heap.size ≤ w1.heap.size; omega) HR.out.1.tab.high)
            have H6 := hid (And.intro P (And.intro hnam6 (And.intro hap6 (And.intro hmap6 (And.intro hfar6 (And.intro hnX hbw6))))))
            clear P0 P2 P3 P4 P5 P6 P hap hnam0 hmap0 hnam1 hnam6 hap6 hmap1 hmap6 hfar6 hnX hbw6
            go_wp2_with (at_builtin; refine wpList_bytes H.out.1 _ rfl _ _ _ rfl w.heap.size _ N rfl H6.out.2.1 _ nm rfl (Src.ofMkS _ un_str nm) ?c3 ?c4 ?_)
            case c3 => omega
            case c4 => omega
            intro v7 W7 hown7 hg7
            obtain ⟨hX7, hn7⟩ := hg7.keep H6.out.1.blk H6.out.2.2.2.2.2.1
            obtain ⟨⟨k0, k1, k2, k3⟩, hfz7⟩ := cur_cells hX7
            have hz7 := hg7.size
            obtain ⟨a7, c7, rfl⟩ : ∃ a c, v7 = .slice a (N.length + nm.length) c := by obtain ⟨a, c, h⟩ := hown7.form; exact ⟨a, c, by rw [h, List.length_append]⟩
            have H7 := hid (And.intro hown7 (And.intro hg7 (And.intro hX7 hn7)))
            clear hown7 hg7 hX7 hn7 hfz7
            go_wp2_with (at_builtin; refine wpList_bytes H.out.1 _ rfl _ _ _ rfl w.heap.size _ _ rfl (H7.out.1.below ((Below.refl _ _).alloc (Nat.le_refl _) _)) _ [0] rfl (Src.byte W7 un_bsE 0 0 rfl _) ?d3 ?d4 ?_)
            case d3 => simp; omega
            case d4 => simp; omega
            intro v8 W8 hown8 hg8
            have hg8' : Grew W7 W8 _ v8 := hg8.under ((Below.refl _ _).alloc (Nat.le_refl _) _)
            obtain ⟨hX8, hn8⟩ := hg8'.keep H7.out.2.2.1 H7.out.2.2.2
            obtain ⟨⟨k0, k1, k2, k3⟩, hfz8⟩ := cur_cells hX8
            have hz8 := hg8'.size
            have hkey : keyOf Try.prog 9 (.string (mkS nm)) = some (.string nm) := WideMaps.keyOf_string_mk un_str (by rw [mkS_size]; exact Nat.le_trans m2 (by decide))
            have hfar7 : (Value.slice a7 (N.length + nm.length) c7).ownBlock ≠ some (w.heap.size + 1) := H7.out.2.1.far (by omega) HR.out.1.nfar
            have hfar8 := hg8'.far (by omega) hfar7
            have hmap7 := H6.out.2.2.2.1.kept H7.out.2.1.by_ (fun e => HR.out.1.nfar e.symm)
            have hmap8 := hmap7.kept hg8'.by_ (fun e => hfar7 e.symm)
            have hv67 := H6.out.1.own.own H7.out.2.1 H6.out.2.2.1
            have hap7 := H7.out.2.1.apart H6.out.1.own H6.out.2.2.1
            have hv68 := hv67.own hg8' hap7
            have hap8 := hg8'.apart hv67 hap7
            have hb7 := H6.out.2.2.2.2.2.2.trans (H7.out.2.1.below (by omega) H6.out.2.1.high)
            have hb8 := hb7.trans (hg8'.below (by omega) H7.out.1.high)
            have H8 := hid (And.intro hown8 (And.intro hmap8 (And.intro hkey (And.intro hfar8 (And.intro hv68 (And.intro hap8 hb8))))))
            clear hown8 hg8 hg8' hX8 hn8 hfz8 hkey hfar7 hfar8 hmap7 hmap8 hv67 hap7 hv68 hap8 hb7 hb8
            go_wp2_with (at_mapUpdate; refine wpList_mapUpdate_own _ rfl _ _ _ 47 rfl 9 54 keyed_str un_map isElem (w.heap.size + 1) k (seenD ((l.take k).map Sym.name)) rfl H8.out.2.1 (Nat.lt_of_le_of_lt (show k ≤ 5000 by omega) (by decide)) _ _ (.string nm) rfl rfl H8.out.2.2.1 (.agg [.lit (.bool true)]) [] (isElem_mk true) ?_; intro w9 hown9 hgrow9; have H9 := hid (And.intro hown9 hgrow9); clear hown9 hgrow9)
            obtain ⟨R, hs⟩ := HR.out
            obtain ⟨hown8, hmap8, hkey, hfar8, hv68, hap8, hb8⟩ := H8.out
            obtain ⟨hown9, hgrow9⟩ := H9.out
            have htk := take_snoc hs
            have hz9 := hgrow9.size
            refine ⟨⟨k + 1, T ++ leB N.length 4 ++ leB kn 1 ++ leB sn 1 ++ leB dn 2 ++ leB val 8, N ++ nm ++ [0], by go_num, ⟨by omega, ?_, by omega, ?_, ?_, ?_, hap8, ?_, H6.out.2.2.2.2.1, hfar8, ?_⟩⟩, by simp [intOf]; omega⟩
            · exact Below.grownBy hb8 hgrow9 (by omega) (by omega)
            · rw [htk, tabN_snoc, R.eq]
              unfold stepM entryB
              rw [← Hk.out, ← Hd.out]
              simp
            · exact hv68.row hgrow9 H6.out.2.2.2.2.1
            · exact OB.row (by simpa using hown8) hgrow9 hfar8
            · rw [htk, List.map_append]
              show World.ownsMap _ _ _ _ _ _ (seenD (List.map Sym.name (l.take k) ++ [nm]))
              rw [seenD_snoc]
              exact hown9
            · rw [htk]
              intro x hx
              rcases List.mem_append.1 hx with h | h
              · exact R.ok x h
              · simp at h; subst h; exact Hm.out.1
    · obtain rfl : k = l.length := by omega
      have hall : l.any (fun s => !mayM s) = false := by
        rw [List.any_eq_false]
        intro s hs
        simp [R.ok s (by rw [List.take_length]; exact hs)]
      have hNeq : tabN l = (T, N) := by have := R.eq; rwa [List.take_length] at this
      have hT16 : l.length ≤ 4096 → T.length ≤ 65536 := fun h => by have := HL.out; omega
      have htw := size_twice l
      have hmap := R.map
      rw [List.take_length] at hmap
      obtain ⟨sz, hsz⟩ : ∃ sz, sz = Maps.size (seenD (l.map Sym.name)) := ⟨_, rfl⟩
      rw [← hsz] at htw
      obtain ⟨ta, tc, rfl⟩ := R.tab.form
      have HE := hid (And.intro hall (And.intro hNeq (And.intro hmap (And.intro R hsz))))
      clear hall hNeq hmap R hsz hlt
      by_cases h1 : 4096 < l.length
      · clear hT16 htw
        go_wp2_with fail
        go_ret3
        have hM : makeM l = ([], [], 11) := by
          unfold makeM
          rw [HE.out.1, HE.out.2.1, if_neg (by simp), if_pos (Or.inl h1)]
        rw [hM]
        exact MakePost_err HE.out.2.2.2.1.below
      · have hT2 := hT16 (by omega)
        clear hT16
        by_cases h2 : 1048576 < N.length
        · clear htw
          go_wp2_with fail
          go_ret3
          have hM : makeM l = ([], [], 11) := by
            unfold makeM
            rw [HE.out.1, HE.out.2.1, if_neg (by simp), if_pos (Or.inr h2)]
          rw [hM]
          exact MakePost_err HE.out.2.2.2.1.below
        · cases ht : twiceM l with
          | true =>
            rw [ht] at htw
            have htw : sz < l.length := by have := of_decide_eq_true htw; omega
            have Ht := hid ht
            clear ht
            go_wp2_with (at_len; refine wpList_len_own _ rfl _ 47 rfl 9 54 un_map _ (w.heap.size + 1) l.length (seenD (l.map Sym.name)) rfl HE.out.2.2.1 ?_; rw [← HE.out.2.2.2.2])
            go_ret3
            have hM : makeM l = ([], [], 21) := by
              unfold makeM
              rw [HE.out.1, HE.out.2.1, if_neg (by simp), if_neg (by simp only; omega), Ht.out, if_pos rfl]
            rw [hM]
            exact MakePost_err HE.out.2.2.2.1.below
          | false =>
            rw [ht] at htw
            have htw : ¬ sz < l.length := by have := of_decide_eq_false htw; omega
            have Ht := hid ht
            clear ht
            go_wp2_with (at_len; refine wpList_len_own _ rfl _ 47 rfl 9 54 un_map _ (w.heap.size + 1) l.length (seenD (l.map Sym.name)) rfl HE.out.2.2.1 ?_; rw [← HE.out.2.2.2.2])
            go_ret3
            have hM : makeM l = (T, N, 0) := by
              unfold makeM
              rw [HE.out.1, HE.out.2.1, if_neg (by simp), if_neg (by simp only; omega), Ht.out, if_neg (by simp)]
            rw [hM]
            exact ⟨_, _, rfl, HE.out.2.2.2.1.tab, HE.out.2.2.2.1.nam, HE.out.2.2.2.1.below⟩

end Go.Proofs.Ytdckfcpjdakjaaa
