/- The walk of nlist.Make. -/
import Derived.Test.YthhjdkcnkdffcaaGreatZQMakeM
import Derived.Deep.DeepCutAuto
import Derived.StillTailTactics
import Derived.Test.YthhjdkcnkdffcaaGreatZPlain
import Derived.ProofKit
import Derived.OpenShut
import Derived.ShutString
import Derived.ChangeOld
import Derived.Test.YthhjdkcnkdffcaaGreatZQRefC
import Derived.Lib.SmallJoins
import Derived.Deep.Slices
import Derived.Deep.Fields
import Derived.ChangeSame
namespace Go.Proofs.YthhjdkcnkdffcaaGreat.Nl
set_option linter.unusedSimpArgs false
set_option linter.unusedVariables false
open Go.RowKit Go.Maps

theorem Grew.keep {w w' : World} {v v' : Value} (h : Grew w w' v v') {X : Nat} {o : Obj} (hX : w.heap[X]? = some o) (hne : v.ownBlock ≠ some X) : w'.heap[X]? = some o ∧ v'.ownBlock ≠ some X := by
  have hlt : X < w.heap.size := (Array.getElem?_eq_some_iff.1 hX).1
  refine ⟨(h.block hlt hne).trans hX, fun e => ?_⟩
  rcases h.lies with h1 | ⟨j, h1, h2⟩
  · exact hne (h1.symm.trans e)
  · rw [h1] at e; cases e; omega

theorem Grew.far {w w' : World} {v v' : Value} (h : Grew w w' v v') {X : Nat} (hX : X < w.heap.size) (hne : v.ownBlock ≠ some X) : v'.ownBlock ≠ some X := by
  intro e
  rcases h.lies with h1 | ⟨j, h1, h2⟩
  · exact hne (h1.symm.trans e)
  · rw [h1] at e; cases e; omega

theorem OB.row {w w' : World} {base : Nat} {e : TypeId} {v : Value} {l : List UInt8} (h : OB w base e v l) {r : Nat} (hg : w.grownBy w' (some r)) (hr : v.ownBlock ≠ some r) : OB w' base e v l :=
  World.ownsRow.kept h hg (.inr hr)

/-- A symbol lies alone in a block. -/
def SymBlk (W : World) (X : Nat) (nm : List UInt8) (sect : Int) (val : Nat) (wk : Bool) : Prop := W.heap[X]? = some (.cells #[.string (mkS nm), .int .i64 sect, .int .u64 val, .bool wk] 62 (0, 0))

/-- What holds between two puts: the slice has taken v0's place; the symbol in hand is as it was. -/
structure PutSt (w0 W : World) (base : Nat) (v0 v : Value) (xs : List UInt8) (X : Nat) (nm : List UInt8) (sect : Int) (val : Nat) (wk : Bool) : Prop where
  grew : Grew w0 W v0 v
  own : OB W base 5 v xs
  blk : SymBlk W X nm sect val wk
  far : v.ownBlock ≠ some X
  base : base ≤ W.heap.size

/-- What holds at the head of each round. -/
structure MkRel (w wr : World) (l : List Sym) (tv nv : Value) (k : Nat) (T N : List UInt8) : Prop where
  le : k ≤ l.length
  below : Below w.heap.size w wr
  size : w.heap.size + 2 ≤ wr.heap.size
  eq : tabN (l.take k) = (T, N)
  tab : OB wr w.heap.size 5 tv T
  nam : OB wr w.heap.size 5 nv N
  apart : Apart tv nv
  map : wr.ownsMap Tryz.prog 9 isElem (w.heap.size + 1) k (seenD ((l.take k).map Sym.name))
  tfar : tv.ownBlock ≠ some (w.heap.size + 1)
  nfar : nv.ownBlock ≠ some (w.heap.size + 1)
  ok : ∀ s ∈ l.take k, mayM s = true

def MkAt (w wr : World) (l : List Sym) (tv nv i : Value) : Prop := ∃ (k : Nat) (T N : List UInt8), i = .int .i64 (k : Int) ∧ MkRel w wr l tv nv k T N

theorem MkRel.lens {w wr : World} {l : List Sym} {tv nv : Value} {k : Nat} {T N : List UInt8} (R : MkRel w wr l tv nv k T N) : T.length = 16 * k ∧ 1 ≤ N.length ∧ N.length ≤ 256 * k + 1 := by
  have h1 := tabN_len1 (l.take k)
  have h2 := tabN_len2 (l.take k) (fun s hs => by have := R.ok s hs; unfold mayM at this; exact (of_decide_eq_true this).2.1)
  have hl : (l.take k).length = k := by rw [List.length_take]; have := R.le; omega
  rw [R.eq, hl] at h1 h2
  exact ⟨h1, h2⟩

def MakePost (w : World) (M : List UInt8 × List UInt8 × Nat) (e : Ending) (w' : World) : Prop :=
  ∃ v1 v2, e = .returned (.tuple #[v1, v2, .int .i64 M.2.2]) ∧ OB w' w.heap.size 5 v1 M.1 ∧ OB w' w.heap.size 5 v2 M.2.1 ∧ Below w.heap.size w w'

theorem MakePost_err {w w' : World} {n : Nat} (hb : Below w.heap.size w w') : MakePost w ([], [], n) (.returned (.tuple #[.slice none 0 0, .slice none 0 0, .int .i64 n])) w' :=
  ⟨_, _, rfl, OB.nil _ _ _, OB.nil _ _ _, hb⟩

theorem mayM_inv {s : Sym} (h : mayM s = true) : (1 ≤ s.name.length ∧ s.name.length ≤ 255 ∧ nul s.name = s.name.length) ∧ 0 ≤ s.sect ∧ s.sect ≤ 255 := by
  unfold mayM at h
  have := of_decide_eq_true h
  exact ⟨⟨this.1, this.2.1, this.2.2.1⟩, this.2.2.2⟩

end Go.Proofs.YthhjdkcnkdffcaaGreat.Nl

namespace Go.Proofs.YthhjdkcnkdffcaaGreat.Nl
set_option linter.unusedSimpArgs false
set_option linter.unusedVariables false
open Go.RowKit Go.Maps

/-- What holds at the head of each round of the second loop. -/
structure RmRel (w wr : World) (l : List Sym) (tv nv : Value) (k : Nat) (T N : List UInt8) : Prop where
  le : k ≤ l.length
  below : Below w.heap.size w wr
  eq : tabN (l.take k) = (T, N)
  tab : OB wr w.heap.size 5 tv T
  nam : OB wr w.heap.size 5 nv N
  apart : Apart tv nv

def RmAt (w wr : World) (l : List Sym) (tv nv i : Value) : Prop := ∃ (k : Nat) (T N : List UInt8), i = .int .i64 (k : Int) ∧ RmRel w wr l tv nv k T N

theorem RmRel.lens {w wr : World} {l : List Sym} {tv nv : Value} {k : Nat} {T N : List UInt8} (R : RmRel w wr l tv nv k T N) (hok : ∀ s ∈ l, mayM s = true) : T.length = 16 * k ∧ 1 ≤ N.length ∧ N.length ≤ 256 * k + 1 := by
  have h1 := tabN_len1 (l.take k)
  have h2 := tabN_len2 (l.take k) (fun s hs => (mayM_inv (hok s (List.mem_of_mem_take hs))).1.2.1)
  have hl : (l.take k).length = k := by rw [List.length_take]; have := R.le; omega
  rw [R.eq, hl] at h1 h2
  exact ⟨h1, h2⟩

/-- No two of the first k have one name. -/
def ApartTo (l : List Sym) (k : Nat) : Prop := ((l.take k).map Sym.name).Nodup
/-- None of the first k has the name. -/
def NoneTo (l : List Sym) (k : Nat) (nm : List UInt8) : Prop := ∀ s ∈ l.take k, s.name ≠ nm

theorem ApartTo.next {l : List Sym} {k : Nat} {s : Sym} (h : ApartTo l k) (hs : l[k]? = some s) (hn : NoneTo l k s.name) : ApartTo l (k + 1) := by
  unfold ApartTo at h ⊢
  rw [take_snoc hs, List.map_append, List.nodup_append]
  refine ⟨h, by simp, fun a ha b hb => ?_⟩
  obtain ⟨x, hx, rfl⟩ := List.mem_map.1 ha
  simp at hb; subst hb
  exact hn x hx

theorem NoneTo.next {l : List Sym} {k : Nat} {s : Sym} {nm : List UInt8} (h : NoneTo l k nm) (hs : l[k]? = some s) (hn : s.name ≠ nm) : NoneTo l (k + 1) nm := by
  unfold NoneTo at h ⊢
  rw [take_snoc hs]
  intro x hx
  rcases List.mem_append.1 hx with h1 | h1
  · exact h x h1
  · simp at h1; subst h1; exact hn

theorem twice_of {l : List Sym} {i j : Nat} {a b : Sym} (hi : l[i]? = some a) (hj : l[j]? = some b) (hij : i < j) (he : a.name = b.name) : twiceM l = true := by
  unfold twiceM
  rw [Bool.not_eq_true', decide_eq_false_iff_not]
  intro h
  obtain ⟨hi', rfl⟩ := List.getElem?_eq_some_iff.1 hi
  obtain ⟨hj', rfl⟩ := List.getElem?_eq_some_iff.1 hj
  have := List.pairwise_iff_getElem.1 h i j (by simpa using hi') (by simpa using hj') hij
  simp at this
  exact this he

/-- The first loop's rounds. -/
def OkAt (w wr : World) (l : List Sym) (i : Value) : Prop := ∃ k : Nat, k ≤ l.length ∧ i = .int .i64 (k : Int) ∧ Below w.heap.size w wr ∧ ∀ s ∈ l.take k, mayM s = true

set_option maxRecDepth 100000 in
set_option maxHeartbeats 4000000 in
set_option maxRecDepth 8000 in
theorem ref_make (w : World) (p : Option Addr) (cap : Nat) (l : List Sym) (h : SS w (.slice p l.length cap) l) (hl : l.length ≤ 5000) (hv : ∀ s ∈ l, s.val < 2 ^ 64) :
    Calls Tryz.prog 18 #[.slice p l.length cap] w (MakePost w (makeM l)) := by
  obtain ⟨i, R⟩ := u8row
  have H := hid (And.intro R (And.intro h hv))
  clear R h hv
  go_enter Tryz.func18, Tryz.ntmps18
  go_wp2_with fail
  go_loopw [5] (fun i wr => OkAt w wr l i) (fun i _ => l.length - (intOf i).toNat)
  case atStart => exact ⟨0, Nat.zero_le _, rfl, Below.refl _ _, by simp⟩
  case round =>
    obtain ⟨k, hk, rfl, hb, hok⟩ := hrel
    by_cases hlt : k < l.length
    · obtain ⟨g, off, rfl, hcs⟩ := (H.out.2.1.below hb).at (by omega)
      obtain ⟨⟨nm, sect, val, wk⟩, hs⟩ : ∃ s, l[k]? = some s := ⟨_, List.getElem?_eq_getElem hlt⟩
      obtain ⟨x0, x1, x2, x3⟩ := hcs k _ hs
      have HR := hid (And.intro hb (And.intro hok hs))
      clear hb hok hs hcs
      go_wp2_with fail
      refine (ref_may _ nm sect val wk).mono ?_
      rintro e w1 ⟨rfl, hb1⟩
      have H1 := hid (HR.out.1.trans (hb1.mono HR.out.1.size))
      clear hb1
      cases hm : mayM ⟨nm, sect, val, wk⟩ with
      | false =>
        have Hm := hid hm
        clear hm
        go_wp2_with fail
        go_ret3
        have hM : makeM l = ([], [], 2) := by
          unfold makeM
          rw [if_pos (List.any_eq_true.2 ⟨_, List.mem_of_getElem? HR.out.2.2, by rw [Hm.out]; rfl⟩)]
        rw [hM]
        exact MakePost_err H1.out
      | true =>
        have Hm := hid hm
        clear hm
        go_wp2_with fail
        refine ⟨⟨k + 1, by omega, by go_num, H1.out, ?_⟩, by simp [intOf]; omega⟩
        rw [take_snoc HR.out.2.2]
        intro x hx
        rcases List.mem_append.1 hx with h | h
        · exact HR.out.2.1 x h
        · simp at h; subst h; exact Hm.out
    · obtain rfl : k = l.length := by omega
      rw [List.take_length] at hok
      have hall : l.any (fun s => !mayM s) = false := by
        rw [List.any_eq_false]
        intro s hs
        simp [hok s hs]
      have HO := hid (And.intro hb (And.intro hok hall))
      obtain ⟨wo, hwo⟩ : ∃ wo : World, wo = wr := ⟨_, rfl⟩
      rw [← hwo]
      rw [← hwo] at HO
      clear hb hok hall hwo hlt hk
      go_wp2_with fail
      go_loopw [6, 7, 8] (fun tv nv i wr => RmAt w wr l tv nv i) (fun _ _ i _ => l.length - (intOf i).toNat)
      case atStart =>
        have hz := HO.out.1.size
        refine ⟨0, [], [0], rfl, Nat.zero_le _, ?_, rfl, OB.nil _ _ _, ?_, Apart.nil _⟩
        · exact HO.out.1.alloc hz _
        · exact (OB.laid wo [0] (by decide)).base hz
      case round =>
        obtain ⟨k, T, N, rfl, R⟩ := hrel
        have HL := hid (R.lens HO.out.2.1)
        have hk := R.le
        have hTl : T.length ≤ 80000 := by have := HL.out; omega
        have hNl : N.length ≤ 1300000 := by have := HL.out; omega
        have hsz := R.below.size
        obtain ⟨na, nc, rfl⟩ := R.nam.form
        by_cases hlt : k < l.length
        · obtain ⟨g, off, rfl, hcs⟩ := (H.out.2.1.below R.below).at (by omega)
          obtain ⟨⟨nm, sect, val, wk⟩, hs⟩ : ∃ s, l[k]? = some s := ⟨_, List.getElem?_eq_getElem hlt⟩
          obtain ⟨x0, x1, x2, x3⟩ := hcs k _ hs
          have hsv : val < 2 ^ 64 := H.out.2.2 _ (List.mem_of_getElem? hs)
          obtain ⟨⟨m1, m2, m3⟩, m4, m5⟩ := mayM_inv (HO.out.2.1 _ (List.mem_of_getElem? hs))
          simp only at m1 m2 m3 m4 m5 x0 x1 x2 x3
          obtain ⟨sn, rfl⟩ := Int.eq_ofNat_of_zero_le m4
          obtain ⟨kn, hkn⟩ : ∃ kn, kn = (Sym.mk nm sn val wk).kindN := ⟨_, rfl⟩
          obtain ⟨dn, hdn⟩ : ∃ dn, dn = (Sym.mk nm sn val wk).descN := ⟨_, rfl⟩
          have hkb : kn ≤ 15 := by rw [hkn]; unfold Sym.kindN; split <;> omega
          have hdb : dn ≤ 128 := by rw [hdn]; unfold Sym.descN; split <;> omega
          have HR := hid (And.intro R (And.intro hs (And.intro m3 (And.intro hkn hdn))))
          clear R hs hcs m3 hkn hdn
          obtain ⟨wi, hwi⟩ : ∃ wi : World, wi = wr := ⟨_, rfl⟩
          rw [← hwi] at x0 x1 x2 x3 HR hsz ⊢
          clear hwi
          go_upto_if 37 with fail
          go_cut [9] (fun kd wx => kd = .int .i64 (kn : Int) ∧ wi = wx)
          case first =>
            by_cases h0 : 0 < (sn : Int)
            · have hk15 : kn = 15 := by rw [HR.out.2.2.2.1]; unfold Sym.kindN; rw [if_pos h0]
              have Hk15 := hid hk15
              clear hk15
              go_wp2_with fail
              go_meet
              exact ⟨by rw [Hk15.out]; rfl, rfl⟩
            · have hk3 : kn = 3 := by rw [HR.out.2.2.2.1]; unfold Sym.kindN; rw [if_neg h0]
              have Hk3 := hid hk3
              clear hk3
              go_wp2_with fail
              go_meet
              exact ⟨by rw [Hk3.out]; rfl, rfl⟩
          case rest =>
            obtain ⟨rfl, rfl⟩ := hcut
            go_upto_if 42 with fail
            go_cut [10] (fun dd wx => dd = .int .i64 (dn : Int) ∧ wi = wx)
            case first =>
              cases wk with
              | true =>
                have hd1 : dn = 128 := by rw [HR.out.2.2.2.2]; rfl
                have Hd1 := hid hd1
                clear hd1
                go_wp2_with fail
                go_meet
                exact ⟨by rw [Hd1.out]; rfl, rfl⟩
              | false =>
                have hd1 : dn = 0 := by rw [HR.out.2.2.2.2]; rfl
                have Hd1 := hid hd1
                clear hd1
                go_wp2_with fail
                go_meet
                exact ⟨by rw [Hd1.out]; rfl, rfl⟩
            case rest =>
              obtain ⟨rfl, rfl⟩ := hcut
              have hgl : g < w.heap.size := by
                obtain ⟨g', off', e', hc'⟩ := H.out.2.1.at (by omega : 0 < l.length)
                cases e'
                exact World.block_lt_of_cell? w _ (hc' k _ HR.out.2.1).1
              have htg : u6.ownBlock ≠ some g := fun e => by have := HR.out.1.tab.high _ e; omega
              have hzi : w.heap.size ≤ wi.heap.size := hsz
              have hti0 := HR.out.1.tab
              have hti : OB wi.drew w.heap.size 5 u6 T := hti0
              go_wp2_with fail
              go_region_held3 (fun w' => w'.cell? ⟨g, off + k * 4, none⟩ = some (.string (mkS nm)) ∧ w'.cell? ⟨g, off + k * 4 + 1, none⟩ = some (.int .i64 (sn : Int)) ∧ w'.cell? ⟨g, off + k * 4 + 2, none⟩ = some (.int .u64 (val : Int))) (simp [*])
                (first
                  | (go_at_call 37; (with_reducible refine (ref_entry _ N.length kn sn dn val (by omega) (by omega) (by omega) (by omega) (by omega)).mono ?_); rintro e W2 ⟨ve, rfl, howne, hb2⟩; obtain ⟨y0, y1, y2⟩ : W2.cell? ⟨g, off + k * 4, none⟩ = some (.string (mkS nm)) ∧ W2.cell? ⟨g, off + k * 4 + 1, none⟩ = some (.int .i64 (sn : Int)) ∧ W2.cell? ⟨g, off + k * 4 + 2, none⟩ = some (.int .u64 (val : Int)) := ⟨below_cell' hb2 (Nat.lt_of_lt_of_le hgl hzi) x0, below_cell' hb2 (Nat.lt_of_lt_of_le hgl hzi) x1, below_cell' hb2 (Nat.lt_of_lt_of_le hgl hzi) x2⟩; obtain ⟨ae, ce, hve⟩ := howne.form; rw [entryB_length] at hve; subst hve; have hsrc : Src Tryz.prog 1 27 (.slice ae 16 ce) (entryB N.length kn sn dn val).length (u8s (entryB N.length kn sn dn val)) W2 := (by rw [entryB_length]; exact Src.ofBS un_bsE (howne.bs (by rw [entryB_length]; omega))); have hz2 : w.heap.size ≤ W2.heap.size := Nat.le_trans hzi hb2.size; have H2 := hid (And.intro (hti.below hb2) (And.intro hsrc hb2)); clear howne hb2 x0 x1 x2 hsrc)
                  | (refine step_bytes H.out.1 _ (by rfl) _ _ _ (by rfl) w.heap.size _ T (by rfl) H2.out.1 _ (entryB N.length kn sn dn val) (by rfl) H2.out.2.1 (by rw [entryB_length]; omega) hz2 ?_; intro v3 W3 hown3 hg3; obtain ⟨z0, z1, z2⟩ : W3.cell? ⟨g, off + k * 4, none⟩ = some (.string (mkS nm)) ∧ W3.cell? ⟨g, off + k * 4 + 1, none⟩ = some (.int .i64 (sn : Int)) ∧ W3.cell? ⟨g, off + k * 4 + 2, none⟩ = some (.int .u64 (val : Int)) := ⟨hg3.cell y0 htg, hg3.cell y1 htg, hg3.cell y2 htg⟩; have H3 := hid (And.intro hown3 hg3); clear hown3 hg3 y0 y1 y2)
                  | fail "no call")
              have hn0 := HR.out.1.nam
              have hn1 : OB wi.drew w.heap.size 5 (.slice na N.length nc) N := hn0
              have hn2 := hn1.below H2.out.2.2
              have hap := HR.out.1.apart
              have hn3 := hn2.own H3.out.2 hap.symm
              have hap3 : Apart v3 (.slice na N.length nc) := (H3.out.2.apart hn2 hap.symm).symm
              have hbi : Below w.heap.size w wi.drew := below_drewN HR.out.1.below 1
              have hb2 := hbi.trans (H2.out.2.2.mono hzi)
              have hb3 := hb2.trans (H3.out.2.below hz2 HR.out.1.tab.high)
              have hz3 := hb3.size
              have H4 := hid (And.intro hn3 (And.intro hap3 hb3))
              clear hn0 hn1 hn2 hap hn3 hap3 hbi hb2 hb3
              go_wp2_with (at_builtin; refine wpList_bytes H.out.1 _ rfl _ _ _ rfl w.heap.size _ N rfl H4.out.1 _ nm rfl (Src.ofMkS _ un_str nm) ?c3 ?c4 ?_)
              case c3 => omega
              case c4 => omega
              intro v7 W7 hown7 hg7
              have hz7 := hg7.size
              obtain ⟨a7, c7, rfl⟩ : ∃ a c, v7 = .slice a (N.length + nm.length) c := by obtain ⟨a, c, h⟩ := hown7.form; exact ⟨a, c, by rw [h, List.length_append]⟩
              have H7 := hid (And.intro hown7 hg7)
              clear hown7 hg7
              go_wp2_with (at_builtin; refine wpList_bytes H.out.1 _ rfl _ _ _ rfl w.heap.size _ _ rfl (H7.out.1.below ((Below.refl _ _).alloc (Nat.le_refl _) _)) _ [0] rfl (Src.byte W7 un_bsE 0 0 rfl _) ?d3 ?d4 ?_)
              case d3 => simp; omega
              case d4 => simp; omega
              intro v8 W8 hown8 hg8
              have hg8' : Grew W7 W8 _ v8 := hg8.under ((Below.refl _ _).alloc (Nat.le_refl _) _)
              have H8 := hid (And.intro hown8 hg8')
              clear hown8 hg8 hg8'
              go_wp2_with fail
              obtain ⟨R, hs, -, hkn, hdn⟩ := HR.out
              have htk := take_snoc hs
              have hv37 := H3.out.1.own H7.out.2 H4.out.2.1
              have hap7 := H7.out.2.apart H3.out.1 H4.out.2.1
              refine ⟨⟨k + 1, T ++ entryB N.length kn sn dn val, N ++ nm ++ [0], by go_num, ⟨by omega, ?_, ?_, ?_, ?_, ?_⟩⟩, by simp [intOf]; omega⟩
              · exact (H4.out.2.2.trans (H7.out.2.below hz3 H4.out.1.high)).trans (H8.out.2.below (by omega) H7.out.1.high)
              · rw [htk, tabN_snoc, R.eq]
                unfold stepM
                rw [← hkn, ← hdn]
                simp
              · exact hv37.own H8.out.2 hap7
              · have := H8.out.1
                simpa using this
              · exact H8.out.2.apart hv37 hap7
        · obtain rfl : k = l.length := by omega
          have hNeq : tabN l = (T, N) := by have := R.eq; rwa [List.take_length] at this
          have HE := hid (And.intro HO.out.2.2 (And.intro hNeq R))
          obtain ⟨wq, hwq⟩ : ∃ wq : World, wq = wr := ⟨_, rfl⟩
          rw [← hwq] at HE ⊢
          obtain ⟨ta, tc, rfl⟩ := R.tab.form
          clear hNeq R hlt hwq hsz
          by_cases h1 : 4096 < l.length
          · go_wp2_with fail
            go_ret3
            have hM : makeM l = ([], [], 11) := by
              unfold makeM
              rw [HE.out.1, HE.out.2.1, if_neg (by simp), if_pos (Or.inl h1)]
            rw [hM]
            exact MakePost_err HE.out.2.2.below
          · by_cases h2 : 1048576 < N.length
            · go_wp2_with fail
              go_ret3
              have hM : makeM l = ([], [], 11) := by
                unfold makeM
                rw [HE.out.1, HE.out.2.1, if_neg (by simp), if_pos (Or.inr h2)]
              rw [hM]
              exact MakePost_err HE.out.2.2.below
            · have H2 := hid (And.intro h1 h2)
              have hl4 : l.length ≤ 4096 := by omega
              have hn4 : N.length ≤ 1048576 := by omega
              go_wp2_with fail
              go_loopw [11] (fun j wr => ∃ jj q : Nat, jj ≤ l.length ∧ j = .int .i64 (jj : Int) ∧ wr = wq.drewN q ∧ ApartTo l jj) (fun j _ => l.length - (intOf j).toNat)
              case atStart => exact ⟨0, 0, Nat.zero_le _, rfl, rfl, by unfold ApartTo; simp⟩
              case round =>
                obtain ⟨jj, q, hjj, rfl, rfl, hap⟩ := hrel
                by_cases hlt : jj < l.length
                · obtain ⟨g, off, rfl, hcs⟩ := (H.out.2.1.below HE.out.2.2.below).at (by omega)
                  obtain ⟨s1, hs1⟩ : ∃ s, l[jj]? = some s := ⟨_, List.getElem?_eq_getElem hlt⟩
                  have x0 := (hcs jj s1 hs1).1
                  have HJ := hid (And.intro hap (And.intro hs1 hcs))
                  clear hap hs1 hcs
                  go_wp2_with fail
                  go_loopw [12] (fun kv wr => ∃ kk q : Nat, kk ≤ jj ∧ kv = .int .i64 (kk : Int) ∧ wr = wq.drewN q ∧ NoneTo l kk s1.name) (fun kv _ => jj - (intOf kv).toNat)
                  case atStart => exact ⟨0, q, Nat.zero_le _, rfl, rfl, by unfold NoneTo; simp⟩
                  case round =>
                    obtain ⟨kk, q2, hkk, rfl, rfl, hno⟩ := hrel
                    by_cases hk2 : kk < jj
                    · obtain ⟨s2, hs2⟩ : ∃ s, l[kk]? = some s := ⟨_, List.getElem?_eq_getElem (by omega)⟩
                      have z0 := (HJ.out.2.2 kk s2 hs2).1
                      by_cases hn : s2.name = s1.name
                      · have hb : (s2.name == s1.name) = true := by simp [hn]
                        have HK := hid (And.intro hno (And.intro hs2 hn))
                        clear hno hs2 hn
                        go_wp2
                        go_quiet (fail)
                        go_wp2
                        go_ret3
                        have ht : twiceM l = true := twice_of HK.out.2.1 HJ.out.2.1 hk2 HK.out.2.2
                        have hM : makeM l = ([], [], 21) := by
                          unfold makeM
                          rw [HE.out.1, HE.out.2.1, if_neg (by simp), if_neg (by simp only; omega), ht, if_pos rfl]
                        rw [hM]
                        exact MakePost_err (below_drewN (below_drewN HE.out.2.2.below _) _)
                      · have hb : (s2.name == s1.name) = false := by simp [hn]
                        have HK := hid (And.intro hno (And.intro hs2 hn))
                        clear hno hs2 hn
                        go_wp2
                        go_quiet (fail)
                        go_wp2
                        exact ⟨⟨kk + 1, _, by omega, by go_num, rfl, HK.out.1.next HK.out.2.1 HK.out.2.2⟩, by simp [intOf]; omega⟩
                    · obtain rfl : kk = jj := by omega
                      have HK := hid hno
                      clear hno
                      go_wp2
                      exact ⟨⟨kk + 1, _, by omega, by go_num, rfl, HJ.out.1.next HJ.out.2.1 HK.out⟩, by simp [intOf]; omega⟩
                · obtain rfl : jj = l.length := by omega
                  have HJ := hid hap
                  clear hap
                  go_wp2
                  go_ret3
                  have ht : twiceM l = false := by
                    have := HJ.out
                    unfold ApartTo at this
                    rw [List.take_length] at this
                    unfold twiceM
                    simp [this]
                  have hM : makeM l = (T, N, 0) := by
                    unfold makeM
                    rw [HE.out.1, HE.out.2.1, if_neg (by simp), if_neg (by simp only; omega), ht, if_neg (by simp)]
                  rw [hM]
                  exact ⟨_, _, rfl, HE.out.2.2.tab, HE.out.2.2.nam, below_drewN HE.out.2.2.below _⟩

end Go.Proofs.YthhjdkcnkdffcaaGreat.Nl

namespace Go.Proofs.YthhjdkcnkdffcaaGreat.Nl
set_option linter.unusedSimpArgs false
set_option linter.unusedVariables false
open Go.ChangeShapes Go.WideShapes Go.ChangeAt Go.RowKit

theorem wf_u8 {n : Int} (h : (Lit.int .u8 n).wf = true) : 0 ≤ n ∧ n ≤ 255 := by simpa [Lit.wf, IntKind.min, IntKind.max, IntKind.signed, IntKind.bits] using h
theorem wf_u64 {n : Int} (h : (Lit.int .u64 n).wf = true) : 0 ≤ n ∧ n ≤ 18446744073709551615 := by simpa [Lit.wf, IntKind.min, IntKind.max, IntKind.signed, IntKind.bits] using h
theorem wf_i64 {n : Int} (h : (Lit.int .i64 n).wf = true) : -9223372036854775808 ≤ n ∧ n ≤ 9223372036854775807 := by simpa [Lit.wf, IntKind.min, IntKind.max, IntKind.signed, IntKind.bits] using h

theorem byte_of {n : Int} (h : (Lit.int .u8 n).wf = true) : ∃ x : UInt8, n = (x.toNat : Int) := by
  have hb := wf_u8 h
  exact ⟨UInt8.ofNat n.toNat, by simp; omega⟩

/-- A list of cells that are bytes. -/
theorem u8s_of : ∀ L : List Value, (∀ v ∈ L, ∃ x : UInt8, v = .int .u8 (x.toNat : Int)) → ∃ xs : List UInt8, L = u8s xs
  | [], _ => ⟨[], rfl⟩
  | v :: r, h => by
    obtain ⟨x, rfl⟩ := h v (by simp)
    obtain ⟨xs, rfl⟩ := u8s_of r (fun v hv => h v (by simp [hv]))
    exact ⟨x :: xs, rfl⟩

section
variable {H : Type} {enc : TypeId × Value → H} {P : Program} {W : World} {base base' : Nat} {sp : Nat → Bool} {held : Bool}

/-- A []byte. -/
theorem open_bs {t e : TypeId} {v : Value} {d : DataW H} {p : List MemPlace} (ht : P.underlying t = some (.slice e)) (he : P.underlying e = some (.int .u8)) (hc : P.cellsOf e = 1)
    (hv : Value.okWide P W .any base' t v) (h : DataW.Trod enc P W base sp held t v d p) :
    ∃ a len cap, v = .slice a len cap ∧ (len ≤ 140737488355328 → ∃ l, BS W (.slice a len cap) l) := by
  obtain ⟨a, len, cap, rfl⟩ := okWide_slice ht hv
  refine ⟨a, len, cap, rfl, fun hbig => ?_⟩
  obtain ⟨fuel, hf⟩ := h
  rcases open_ints ht he hc hf with ⟨hcs, _⟩ | ⟨x, l, c, zs, hcs, _, hl, hm, hz, _, hcell, hwz⟩
  · simp [Value.cells] at hcs
    obtain ⟨rfl, rfl, rfl⟩ := hcs
    exact ⟨[], none, 0, rfl, Nat.le_refl _, ⟨Nat.zero_le _, by simp⟩, fun h => absurd rfl h⟩
  · simp [Value.cells] at hcs
    obtain ⟨rfl, rfl, rfl⟩ := hcs
    have hz' : len ≤ zs.length := by rw [hz]; split <;> omega
    obtain ⟨xs, hxs⟩ := u8s_of ((zs.take len).map (Value.int .u8)) (fun v hv => by
      obtain ⟨n, hn, rfl⟩ := List.mem_map.1 hv
      obtain ⟨x, rfl⟩ := byte_of (hwz n (List.mem_of_mem_take hn))
      exact ⟨x, rfl⟩)
    have hlen : xs.length = len := by
      have := congrArg List.length hxs
      simp [u8s] at this; omega
    refine ⟨xs, some x, cap, by rw [hlen], by omega, ⟨hm, by omega⟩, fun hne => ?_⟩
    have hpos : 0 < len := by rw [← hlen]; exact List.length_pos_iff.2 hne
    obtain ⟨b, off, spot⟩ := x
    have h0 := hcell 0 (by omega)
    have hspot : spot = none := by simpa [Addr.add] using World.cell?_spot h0
    subst hspot
    refine ⟨b, off, rfl, fun i y hy => ?_⟩
    have hi : i < len := by have := (List.getElem?_eq_some_iff.1 hy).1; omega
    have hci := hcell i (by omega)
    have ea : (⟨b, off, none⟩ : Addr).add i = ⟨b, off + i, none⟩ := by unfold Addr.add; split <;> simp_all
    rw [ea] at hci
    rw [hci]
    have e1 : ((zs.take len).map (Value.int .u8))[i]? = some (Value.int .u8 (zs.getD i 0)) := by
      rw [List.getElem?_map, List.getElem?_take_of_lt hi, List.getElem?_eq_getElem (by omega)]
      simp [List.getElem?_eq_getElem (show i < zs.length by omega)]
    rw [hxs] at e1
    simp [u8s, hy] at e1
    simp [e1]

/-- A [n]byte by value. -/
theorem open_arr {t e : TypeId} {n : Nat} {v : Value} {d : DataW H} {p : List MemPlace} (ht : P.underlying t = some (.array n e)) (he : P.underlying e = some (.int .u8)) (hc : P.cellsOf e = 1) (hC : P.cellsOf t = n)
    (hv : Value.okWide P W .any base' t v) (h : DataW.Trod enc P W base sp held t v d p) : ∃ xs : List UInt8, xs.length = n ∧ v = .agg (u8s xs).toArray := by
  unfold Value.okWide at hv
  rw [ht] at hv
  obtain ⟨cs, rfl, hsz, -⟩ := hv
  obtain ⟨fuel, hf⟩ := h
  obtain ⟨ys, m, -, -, hl, hyl, hall⟩ := DataW.trod_array ht hf
  have hcl : cs.toList.length = n := by simpa using hsz.trans hC
  obtain ⟨xs, hxs⟩ := u8s_of cs.toList (fun v hv => by
    obtain ⟨i, hi, rfl⟩ := List.mem_iff_getElem.1 hv
    have h1 := hall i (by omega)
    rw [hc, Nat.mul_one] at h1
    have e1 : ((Value.agg cs).cells.toList.drop i).take 1 = [cs.toList[i]] := by
      show (cs.toList.drop i).take 1 = _
      rw [List.take_one, List.head?_drop, List.getElem?_eq_getElem hi]; rfl
    rw [e1, List.getElem?_eq_getElem (by omega)] at h1
    obtain ⟨a, e0, -, wa⟩ := DataW.trod_int he h1
    obtain ⟨x, rfl⟩ := byte_of wa
    simp at e0
    exact ⟨x, e0⟩)
  refine ⟨xs, ?_, ?_⟩
  · have := congrArg List.length hxs
    simp [u8s] at this; simp at hcl; omega
  · rw [← hxs]
end

end Go.Proofs.YthhjdkcnkdffcaaGreat.Nl

namespace Go.Proofs.YthhjdkcnkdffcaaGreat.Nl
set_option linter.unusedSimpArgs false
set_option linter.unusedVariables false
open Go.ChangeShapes Go.WideShapes Go.ChangeAt Go.RowKit Go.Joins Go.Deep

/-- A symbol's fields lie in their kinds. -/
def SymIn (sect : Int) (val : Nat) : Prop := (-9223372036854775808 ≤ sect ∧ sect ≤ 9223372036854775807) ∧ val < 18446744073709551616

section
variable {H : Type} {enc : TypeId × Value → H} {P : Program} {W : World} {base base' : Nat} {sp : Nat → Bool} {held : Bool}

/-- A symbol. -/
theorem open_sym {t : TypeId} {v : Value} {d : DataW H} {p : List MemPlace} {f0 f1 f2 f3 : Field} (hs : P.underlying t = some (.struct #[f0, f1, f2, f3])) (hone : oneCellFields P #[f0, f1, f2, f3] = true) (hC : P.cellsOf t = 4)
    (u0 : P.underlying f0.type = some .string) (u1 : P.underlying f1.type = some (.int .i64)) (u2 : P.underlying f2.type = some (.int .u64)) (u3 : P.underlying f3.type = some .bool)
    (hv : Value.okWide P W .any base' t v) (h : DataW.Trod enc P W base sp held t v d p) :
    ∃ (nm : List UInt8) (sect : Int) (val : Nat) (weak : Bool), v = .agg #[.string (mkS nm), .int .i64 sect, .int .u64 val, .bool weak] ∧ SymIn sect val := by
  obtain ⟨v0, v1, v2, v3, y0, y1, y2, y3, n, rfl, -, -, h0, h1, h2, h3⟩ := open_agg4 hs hone hC hv h
  cases n with
  | zero => simp [DataW.trod] at h0
  | succ n =>
    obtain ⟨s, e0, -⟩ := DataW.trod_string u0 h0
    obtain ⟨k, e1, -, w1⟩ := DataW.trod_int u1 h1
    obtain ⟨m, e2, -, w2⟩ := DataW.trod_int u2 h2
    obtain ⟨b, e3, -⟩ := DataW.trod_bool u3 h3
    simp only [List.cons.injEq, and_true] at e0 e1 e2 e3
    subst e0 e1 e2 e3
    have b1 := wf_i64 w1
    have b2 := wf_u64 w2
    refine ⟨s.data.toList, k, m.toNat, b, ?_, b1, by omega⟩
    rw [mkS_data, Int.toNat_of_nonneg b2.1]
end

end Go.Proofs.YthhjdkcnkdffcaaGreat.Nl

namespace Go.Proofs.YthhjdkcnkdffcaaGreat.Nl
set_option linter.unusedSimpArgs false
set_option linter.unusedVariables false
open Go.ChangeShapes Go.WideShapes Go.ChangeAt Go.RowKit Go.Joins Go.Deep

/-- The value v reads in w as the symbols l, however many. -/
def SN (w : World) (v : Value) (l : List Sym) : Prop :=
  ∃ (a : Option Addr) (cap : Nat), v = .slice a l.length cap ∧ l.length ≤ cap ∧ cap ≤ maxLen ∧
    (l ≠ [] → ∃ g off, a = some ⟨g, off, none⟩ ∧ ∀ k s, l[k]? = some s → w.cell? ⟨g, off + k * 4, none⟩ = some (.string (mkS s.name)) ∧ w.cell? ⟨g, off + k * 4 + 1, none⟩ = some (.int .i64 s.sect) ∧ w.cell? ⟨g, off + k * 4 + 2, none⟩ = some (.int .u64 s.val) ∧ w.cell? ⟨g, off + k * 4 + 3, none⟩ = some (.bool s.weak))

theorem SN.ss {w : World} {v : Value} {l : List Sym} (h : SN w v l) (hl : l.length ≤ 140737488355328) : SS w v l := by
  obtain ⟨a, cap, rfl, h1, h2, h3⟩ := h
  exact ⟨a, cap, rfl, h1, hl, h3⟩

theorem SN.len {w : World} {a : Option Addr} {n cap : Nat} {l : List Sym} (h : SN w (.slice a n cap) l) : l.length = n ∧ n ≤ maxLen := by
  obtain ⟨a', cap', he, h1, h2, _⟩ := h
  cases he; exact ⟨rfl, Nat.le_trans h1 h2⟩

theorem SN.at {w : World} {a : Option Addr} {n cap : Nat} {l : List Sym} (h : SN w (.slice a n cap) l) (hn : 0 < n) :
    ∃ g off, a = some ⟨g, off, none⟩ ∧ ∀ k s, l[k]? = some s → w.cell? ⟨g, off + k * 4, none⟩ = some (.string (mkS s.name)) ∧ w.cell? ⟨g, off + k * 4 + 1, none⟩ = some (.int .i64 s.sect) ∧ w.cell? ⟨g, off + k * 4 + 2, none⟩ = some (.int .u64 s.val) ∧ w.cell? ⟨g, off + k * 4 + 3, none⟩ = some (.bool s.weak) := by
  obtain ⟨a', cap', he, h1, h2, h3⟩ := h
  cases he
  exact h3 (by intro e; rw [e] at hn; exact absurd hn (by simp))

section
variable {H : Type} {enc : TypeId × Value → H} {P : Program} {W : World} {base base' : Nat} {sp : Nat → Bool} {held : Bool}

/-- One symbol, out of a row of cells. -/
theorem sym_of_cells {t : TypeId} {n : Nat} {cs : List Value} {x : DataW H × List MemPlace} {f0 f1 f2 f3 : Field} (hs : P.underlying t = some (.struct #[f0, f1, f2, f3])) (hone : oneCellFields P #[f0, f1, f2, f3] = true) (hC : P.cellsOf t = 4)
    (u0 : P.underlying f0.type = some .string) (u1 : P.underlying f1.type = some (.int .i64)) (u2 : P.underlying f2.type = some (.int .u64)) (u3 : P.underlying f3.type = some .bool)
    (h : DataW.trod enc P W base sp held n t cs = some x) : ∃ s : Sym, cs = s.cells ∧ SymIn s.sect s.val := by
  obtain ⟨ys, m, -, -, hl, hyl, hf⟩ := DataW.trod_struct hs h
  rw [hC] at hl
  match cs, hl with
  | [c0, c1, c2, c3], _ =>
    obtain ⟨o0, k0⟩ := hone_of hone 0 f0 rfl
    obtain ⟨o1, k1⟩ := hone_of hone 1 f1 rfl
    obtain ⟨o2, k2⟩ := hone_of hone 2 f2 rfl
    obtain ⟨o3, k3⟩ := hone_of hone 3 f3 rfl
    have hy : ∀ j, j < 4 → ∃ y, ys[j]? = some y := fun j hj => ⟨_, List.getElem?_eq_getElem (by rw [hyl]; exact hj)⟩
    obtain ⟨y0, e0⟩ := hy 0 (by omega)
    obtain ⟨y1, e1⟩ := hy 1 (by omega)
    obtain ⟨y2, e2⟩ := hy 2 (by omega)
    obtain ⟨y3, e3⟩ := hy 3 (by omega)
    have g0 := hf 0 f0 rfl
    have g1 := hf 1 f1 rfl
    have g2 := hf 2 f2 rfl
    have g3 := hf 3 f3 rfl
    rw [e0, o0, k0] at g0
    rw [e1, o1, k1] at g1
    rw [e2, o2, k2] at g2
    rw [e3, o3, k3] at g3
    cases m with
    | zero => simp [DataW.trod] at g0
    | succ m =>
      obtain ⟨s, d0, -⟩ := DataW.trod_string u0 g0
      obtain ⟨k, d1, -, w1⟩ := DataW.trod_int u1 g1
      obtain ⟨q, d2, -, w2⟩ := DataW.trod_int u2 g2
      obtain ⟨b, d3, -⟩ := DataW.trod_bool u3 g3
      simp at d0 d1 d2 d3
      subst d0 d1 d2 d3
      have b1 := wf_i64 w1
      have b2 := wf_u64 w2
      refine ⟨⟨s.data.toList, k, q.toNat, b⟩, ?_, b1, by show q.toNat < _; omega⟩
      show _ = [Value.string (mkS s.data.toList), Value.int .i64 k, Value.int .u64 (q.toNat : Int), Value.bool b]
      rw [mkS_data, Int.toNat_of_nonneg b2.1]

/-- A slice of symbols. -/
theorem open_syms_at {t e : TypeId} {v : Value} {d : DataW H} {p : List MemPlace} {f0 f1 f2 f3 : Field} (ht : P.underlying t = some (.slice e)) (hs : P.underlying e = some (.struct #[f0, f1, f2, f3])) (hone : oneCellFields P #[f0, f1, f2, f3] = true) (hC : P.cellsOf e = 4)
    (u0 : P.underlying f0.type = some .string) (u1 : P.underlying f1.type = some (.int .i64)) (u2 : P.underlying f2.type = some (.int .u64)) (u3 : P.underlying f3.type = some .bool)
    (hv : Value.okWide P W .any base' t v) (h : DataW.Trod enc P W base sp held t v d p) :
    ∃ a len cap, v = .slice a len cap ∧ ∃ l, SN W (.slice a len cap) l ∧ ∀ s ∈ l, SymIn s.sect s.val := by
  obtain ⟨a, len, cap, rfl⟩ := okWide_slice ht hv
  refine ⟨a, len, cap, rfl, ?_⟩
  obtain ⟨fuel, hf⟩ := h
  rcases open_slice ht hf with ⟨hcs, _⟩ | ⟨x, l, c, m, n, D, Pl, hcs, _, hl, hm, hmm, _, hi⟩
  · simp [Value.cells] at hcs
    obtain ⟨rfl, rfl, rfl⟩ := hcs
    exact ⟨[], ⟨none, 0, rfl, Nat.le_refl _, Nat.zero_le _, fun h => absurd rfl h⟩, by simp⟩
  · simp [Value.cells] at hcs
    obtain ⟨rfl, rfl, rfl⟩ := hcs
    have hlm : len ≤ m := by rw [hmm]; split <;> omega
    rw [hC] at hi
    have hex : ∀ i, ∃ s : Sym, i < len → ((∀ j, j < 4 → W.cell? (x.add (i * 4 + j)) = s.cells[j]?) ∧ SymIn s.sect s.val) := by
      intro i
      by_cases hlt : i < len
      · obtain ⟨cs', hc, htr⟩ := hi i (by omega)
        obtain ⟨s, rfl, hin⟩ := sym_of_cells hs hone hC u0 u1 u2 u3 htr
        obtain ⟨-, -, hcell⟩ := World.cells?_some hc
        exact ⟨s, fun _ => ⟨fun j hj => by rw [← Go.Deep.add_add]; exact hcell j hj, hin⟩⟩
      · exact ⟨Sym.zero, fun h => absurd h hlt⟩
    obtain ⟨f, hfs⟩ := Classical.axiomOfChoice hex
    have hget : ∀ k s, ((List.range len).map f)[k]? = some s → k < len ∧ s = f k := by
      intro k s hk
      have hk' : k < len := by have := (List.getElem?_eq_some_iff.1 hk).1; simpa using this
      rw [List.getElem?_map, List.getElem?_range hk'] at hk
      simp at hk
      exact ⟨hk', hk.symm⟩
    refine ⟨(List.range len).map f, ⟨some x, cap, by simp, by simpa using hl, hm, fun hne => ?_⟩, fun s hs' => ?_⟩
    · have hpos : 0 < len := by
        have := List.length_pos_iff.2 hne
        simpa using this
      obtain ⟨b, off, spot⟩ := x
      have h0 := (hfs 0 hpos).1 0 (by omega)
      have h0' : W.cell? (Addr.add ⟨b, off, spot⟩ 0) = some (.string (mkS (f 0).name)) := h0
      have hspot : spot = none := by simpa [Addr.add] using World.cell?_spot h0'
      subst hspot
      refine ⟨b, off, rfl, fun k s hk => ?_⟩
      obtain ⟨hk', rfl⟩ := hget k s hk
      have hc := (hfs k hk').1
      have ea : ∀ i, (⟨b, off, none⟩ : Addr).add i = ⟨b, off + i, none⟩ := fun i => by unfold Addr.add; split <;> simp_all
      simp only [ea] at hc
      exact ⟨hc 0 (by omega), hc 1 (by omega), hc 2 (by omega), hc 3 (by omega)⟩
    · obtain ⟨i, hi', rfl⟩ := List.mem_map.1 hs'
      exact (hfs i (List.mem_range.1 hi')).2
end

set_option maxRecDepth 20000 in
theorem open_syms {H : Type} {enc : TypeId × Value → H} {W : World} {base base' : Nat} {sp : Nat → Bool} {held : Bool} {v : Value} {d : DataW H} {p : List MemPlace}
    (hv : Value.okWide Tryz.prog W .any base' 56 v) (h : DataW.Trod enc Tryz.prog W base sp held 56 v d p) :
    ∃ a len cap, v = .slice a len cap ∧ ∃ l, SN W (.slice a len cap) l ∧ ∀ s ∈ l, SymIn s.sect s.val :=
  open_syms_at Tryz.underlying56 Tryz.underlying62 (by kernel_rfl) (by kernel_rfl) Tryz.underlying9 Tryz.underlying3 Tryz.underlying23 Tryz.underlying4 hv h

/-! ### few -/
def fewM (l : List Sym) (most : Nat) : Bool := l.all (fun s => decide (s.name.length ≤ 400)) && decide (l.length ≤ most)

end Go.Proofs.YthhjdkcnkdffcaaGreat.Nl

namespace Go.Proofs.YthhjdkcnkdffcaaGreat.Nl
set_option linter.unusedSimpArgs false
set_option linter.unusedVariables false
open Go.RowKit Go.Maps

theorem makeM_ok {l : List Sym} {T N : List UInt8} (h : makeM l = (T, N, 0)) : l.any (fun s => !mayM s) = false ∧ l.length ≤ 4096 ∧ N.length ≤ 1048576 ∧ (l.map Sym.name).Nodup ∧ T = (tabN l).1 ∧ N = (tabN l).2 := by
  unfold makeM at h
  cases h1 : l.any (fun s => !mayM s) with
  | true => rw [h1, if_pos rfl] at h; cases h
  | false =>
    rw [h1, if_neg (by simp)] at h
    by_cases h2 : 4096 < l.length ∨ 1048576 < (tabN l).2.length
    · rw [if_pos h2] at h; cases h
    · rw [if_neg h2] at h
      cases h3 : twiceM l with
      | true => rw [h3, if_pos rfl] at h; cases h
      | false =>
        rw [h3, if_neg (by simp)] at h
        cases h
        refine ⟨rfl, by omega, by omega, ?_, rfl, rfl⟩
        unfold twiceM at h3
        simpa using h3

theorem makeM_err {l : List Sym} {T N : List UInt8} {e : Nat} (h : makeM l = (T, N, e)) (he : e ≠ 0) : T = [] ∧ N = [] := by
  unfold makeM at h
  cases h1 : l.any (fun s => !mayM s) with
  | true => rw [h1, if_pos rfl] at h; cases h; exact ⟨rfl, rfl⟩
  | false =>
    rw [h1, if_neg (by simp)] at h
    by_cases h2 : 4096 < l.length ∨ 1048576 < (tabN l).2.length
    · rw [if_pos h2] at h; cases h; exact ⟨rfl, rfl⟩
    · rw [if_neg h2] at h
      cases h3 : twiceM l with
      | true => rw [h3, if_pos rfl] at h; cases h; exact ⟨rfl, rfl⟩
      | false => rw [h3, if_neg (by simp)] at h; cases h; exact absurd rfl he

theorem makeM_told {l : List Sym} {T N : List UInt8} (h : makeM l = (T, N, 0)) (hv : ∀ s ∈ l, s.val < 2 ^ 64) : tableM T N 255 = (l, 0) := by
  obtain ⟨h1, h2, h3, h4, rfl, rfl⟩ := makeM_ok h
  refine tableM_made l hv h h1 h2 (by omega) h4 255 (fun s hs => ?_)
  have : mayM s = true := by
    cases hm : mayM s with
    | true => rfl
    | false =>
      have : l.any (fun s => !mayM s) = true := List.any_eq_true.2 ⟨s, hs, by simp [hm]⟩
      rw [h1] at this; cases this
  exact .inl (mayM_inv this).2.2

theorem makeM_len {l : List Sym} {T N : List UInt8} {e : Nat} (h : makeM l = (T, N, e)) (hl : l.length ≤ 5000) : T.length ≤ 80000 ∧ N.length ≤ 1048576 := by
  by_cases he : e = 0
  · subst he
    obtain ⟨h1, h2, h3, h4, rfl, rfl⟩ := makeM_ok h
    rw [tabN_len1]
    exact ⟨by omega, h3⟩
  · obtain ⟨rfl, rfl⟩ := makeM_err h he
    exact ⟨by simp, by simp⟩

end Go.Proofs.YthhjdkcnkdffcaaGreat.Nl
