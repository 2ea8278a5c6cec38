/- Segments and images: how they lie; image.hole. -/
import Derived.Test.YthhjdkcnkdffcaaGreatZAppend
import Derived.Test.YthhjdkcnkdffcaaGreatRows
import Derived.Test.YthhjdkcnkdffcaaGreatZPlain
import Derived.Deep.MidRow
import Derived.Deep.WholeRow
namespace Go.Proofs.YthhjdkcnkdffcaaGreat
set_option linter.unusedSimpArgs false
set_option linter.unusedVariables false
open Go.RowKit

/-- A segment; its sections as the slice that it holds. -/
structure Seg where
  name : List UInt8
  addr : Nat
  size : Nat
  off : Nat
  fsize : Nat
  prot : Int
  sp : Option Addr
  sn : Nat
  sc : Nat

def Seg.cells (s : Seg) : Array Value := #[.string (mkS s.name), .int .u64 (s.addr : Int), .int .u64 (s.size : Int), .int .u64 (s.off : Int), .int .u64 (s.fsize : Int), .int .i64 s.prot, .slice s.sp s.sn s.sc]
def Seg.v (s : Seg) : Value := .agg #[.string (mkS s.name), .int .u64 (s.addr : Int), .int .u64 (s.size : Int), .int .u64 (s.off : Int), .int .u64 (s.fsize : Int), .int .i64 s.prot, .slice s.sp s.sn s.sc]

structure Seg.In (s : Seg) : Prop where
  addr : s.addr < 18446744073709551616
  size : s.size < 18446744073709551616
  off : s.off < 18446744073709551616
  fsize : s.fsize < 18446744073709551616

def holeM (s : Seg) : Bool := (s.prot == 0) && (s.fsize == 0)

/-- The slice v reads as these segments. -/
def SegsAt (w : World) (v : Value) (l : List Seg) : Prop :=
  ∃ (p : Option Addr) (cap : Nat), v = .slice p l.length cap ∧ l.length ≤ cap ∧ (cap ≤ maxLen ∧ l.length ≤ 140737488355328) ∧
    (l ≠ [] → ∃ b off, p = some ⟨b, off, none⟩ ∧ ∀ i s, l[i]? = some s → ∀ j x, s.cells[j]? = some x → w.cell? ⟨b, off + i * 7 + j, none⟩ = some x)

theorem SegsAt.nil (w : World) : SegsAt w (.slice none 0 0) [] := ⟨none, 0, rfl, Nat.le_refl _, ⟨Nat.zero_le _, by decide⟩, fun h => absurd rfl h⟩

theorem SegsAt.below {w w' : World} {v : Value} {l : List Seg} (h : SegsAt w v l) (hb : Below w.heap.size w w') : SegsAt w' v l := by
  obtain ⟨p, cap, hv, h1, h2, h3⟩ := h
  refine ⟨p, cap, hv, h1, h2, fun hne => ?_⟩
  obtain ⟨b, off, hp, hc⟩ := h3 hne
  refine ⟨b, off, hp, fun i s hs j x hx => ?_⟩
  have := hc i s hs j x hx
  rw [hb.cell (World.block_lt_of_cell? w _ this)]
  exact this

set_option maxHeartbeats 400000 in
theorem im_hole (w : World) (s : Seg) : Calls Tryz.prog 58 #[s.v] w fun e w' => e = .returned (.bool (holeM s)) ∧ Below w.heap.size w w' := by
  have hb : Below w.heap.size w (w.alloc (.cells s.cells 74)) := (Below.refl _ _).alloc (Nat.le_refl _) _
  have H := hid hb
  clear hb
  unfold Seg.v
  cases hp : s.prot == 0 with
  | false =>
    have hr : holeM s = false := by unfold holeM; rw [hp]; rfl
    rw [hr]
    clear hr
    go_enter Tryz.func58, Tryz.ntmps58
    go_wp2_with fail
    go_ret
    exact ⟨rfl, H.out⟩
  | true =>
    have hr : holeM s = (s.fsize == 0) := by unfold holeM; rw [hp]; rfl
    have hd : ((s.fsize : Int) == 0) = (s.fsize == 0) := by
      rw [Bool.eq_iff_iff, beq_iff_eq, beq_iff_eq]; omega
    rw [hr]
    obtain ⟨R, hR⟩ : ∃ R, R = (s.fsize == 0) := ⟨_, rfl⟩
    rw [← hR] at hd ⊢
    clear hr hR
    go_enter Tryz.func58, Tryz.ntmps58
    go_wp2_with fail
    go_ret
    exact ⟨rfl, H.out⟩
end Go.Proofs.YthhjdkcnkdffcaaGreat

namespace Go.Proofs.YthhjdkcnkdffcaaGreat
set_option linter.unusedSimpArgs false
set_option linter.unusedVariables false
open Go.RowKit

theorem SegsAt.form {w : World} {v : Value} {l : List Seg} (h : SegsAt w v l) : ∃ a cap, v = .slice a l.length cap := by
  obtain ⟨p, cap, hv, -⟩ := h
  exact ⟨p, cap, hv⟩
theorem SegsAt.bound {w : World} {v : Value} {l : List Seg} (h : SegsAt w v l) : l.length ≤ 140737488355328 := by
  obtain ⟨p, cap, hv, h1, h2, h3⟩ := h
  exact h2.2
/-- The cells of a segment. -/
theorem SegsAt.at {w : World} {p : Option Addr} {n cap : Nat} {l : List Seg} (h : SegsAt w (.slice p n cap) l) (hn : 0 < l.length) : ∃ b off, p = some ⟨b, off, none⟩ ∧ ∀ i s, l[i]? = some s →
    w.cell? ⟨b, off + i * 7, none⟩ = some (.string (mkS s.name)) ∧ w.cell? ⟨b, off + i * 7 + 1, none⟩ = some (.int .u64 (s.addr : Int)) ∧ w.cell? ⟨b, off + i * 7 + 2, none⟩ = some (.int .u64 (s.size : Int)) ∧ w.cell? ⟨b, off + i * 7 + 3, none⟩ = some (.int .u64 (s.off : Int)) ∧
    w.cell? ⟨b, off + i * 7 + 4, none⟩ = some (.int .u64 (s.fsize : Int)) ∧ w.cell? ⟨b, off + i * 7 + 5, none⟩ = some (.int .i64 s.prot) ∧ w.cell? ⟨b, off + i * 7 + 6, none⟩ = some (.slice s.sp s.sn s.sc) := by
  obtain ⟨p', cap', hv, h1, h2, h3⟩ := h
  cases hv
  obtain ⟨b, off, hp, hc⟩ := h3 (List.length_pos_iff.1 hn)
  exact ⟨b, off, hp, fun i s hs => ⟨hc i s hs 0 _ rfl, hc i s hs 1 _ rfl, hc i s hs 2 _ rfl, hc i s hs 3 _ rfl, hc i s hs 4 _ rfl, hc i s hs 5 _ rfl, hc i s hs 6 _ rfl⟩⟩

set_option maxHeartbeats 400000 in
theorem im_laid (w : World) (s : Seg) : Calls Tryz.prog 74 #[s.v] w fun e w' => e = .returned (.bool (!holeM s)) ∧ Below w.heap.size w w' := by
  obtain ⟨R, hR⟩ : ∃ R, R = holeM s := ⟨_, rfl⟩
  have HC := hid (fun w => by have := im_hole w s; rwa [← hR] at this)
  rw [← hR]
  have hb : Below w.heap.size w (w.alloc (.cells s.cells 74)) := (Below.refl _ _).alloc (Nat.le_refl _) _
  have H := hid hb
  clear hb hR
  unfold Seg.v at HC ⊢
  go_enter Tryz.func74, Tryz.ntmps74
  go_wp2_with fail
  refine (HC.out _).mono ?_
  rintro e w1 ⟨rfl, hb1⟩
  have H1 := hid (H.out.trans (hb1.mono H.out.size))
  clear hb1
  go_wp2_with fail
  go_ret
  exact ⟨rfl, H1.out⟩

def posL (l : List Seg) : Nat := l.findIdx (fun s => !holeM s)
def firstM (l : List Seg) : Int := if posL l < l.length then (posL l : Int) else -1
theorem firstM_lt {l : List Seg} (h : posL l < l.length) : firstM l = posL l := if_pos h
theorem firstM_no {l : List Seg} (h : ¬ posL l < l.length) : firstM l = -1 := if_neg h

set_option maxHeartbeats 400000 in
theorem seg_index (w : World) (v : Value) (l : List Seg) (hv : SegsAt w v l) :
    Calls Tryz.prog 73 #[v, .func (.func 74) #[] #[]] w fun e w' => e = .returned (.int .i64 (firstM l)) ∧ Below w.heap.size w w' := by
  obtain ⟨a, c, rfl⟩ := hv.form
  have hll := hv.bound
  have hpl : posL l ≤ l.length := List.findIdx_le_length
  have H := hid hv
  clear hv
  go_enter Tryz.func73, Tryz.ntmps73
  go_wp2_with fail
  go_loopw [8] (fun i wr => ∃ k : Nat, k ≤ posL l ∧ i = .int .i64 (k : Int) ∧ Below w.heap.size w wr) (fun i _ => l.length - (intOf i).toNat)
  case atStart => exact ⟨0, Nat.zero_le _, rfl, Below.refl _ _⟩
  case round =>
    obtain ⟨k, hk, rfl, hb⟩ := hrel
    have hsz := hb.size
    by_cases hlt : k < l.length
    · have hvr := H.out.below hb
      obtain ⟨g, off, rfl, hcs⟩ := hvr.at (by omega)
      obtain ⟨s, hs⟩ : ∃ s, l[k]? = some s := ⟨_, List.getElem?_eq_getElem hlt⟩
      obtain ⟨x0, x1, x2, x3, x4, x5, x6⟩ := hcs k s hs
      have hsk : l[k] = s := (List.getElem?_eq_some_iff.1 hs).2
      have Hs := hid (And.intro hsk hb)
      obtain ⟨bq, hbq⟩ : ∃ bq, bq = !holeM s := ⟨_, rfl⟩
      have HC := hid (fun w => by have := im_laid w s; unfold Seg.v at this; rwa [← hbq] at this)
      have Hq := hid hbq
      clear hcs hs hvr hsk hb hbq
      go_wp2_with fail
      refine (HC.out _).mono ?_
      rintro e w1 ⟨rfl, hb1⟩
      have Hb1 := hid hb1
      clear hb1
      cases bq with
      | true =>
        go_wp2
        go_ret
        have hkp : posL l = k := by
          have h1 : posL l ≤ k := by
            unfold posL
            rcases Nat.lt_or_ge k (List.findIdx (fun s => !holeM s) l) with h | h
            · have := List.not_of_lt_findIdx h
              rw [Hs.out.1] at this
              exact absurd Hq.out (by simp [this])
            · exact h
          omega
        refine ⟨?_, Hs.out.2.trans (Hb1.out.mono Hs.out.2.size)⟩
        rw [firstM_lt (by omega), hkp]
        rfl
      | false =>
        have hkp : k < posL l := by
          unfold posL at hk ⊢
          rcases Nat.lt_or_eq_of_le hk with h | h
          · exact h
          · exfalso
            have h2 := List.findIdx_getElem (p := fun s : Seg => !holeM s) (xs := l) (w := by rw [← h]; exact hlt)
            have h3 : l[List.findIdx (fun s => !holeM s) l]'(by rw [← h]; exact hlt) = s := by rw [← Hs.out.1]; congr 1; exact h.symm
            rw [h3] at h2
            exact absurd Hq.out (by simp [h2])
        go_wp2
        exact ⟨⟨k + 1, by omega, by go_num, Hs.out.2.trans (Hb1.out.mono Hs.out.2.size)⟩, by simp [intOf]; omega⟩
    · have hkp : posL l = k := by omega
      have Hp := hid (And.intro hkp hb)
      clear hkp hb
      go_wp2
      go_ret
      refine ⟨?_, Hp.out.2⟩
      rw [firstM_no (by rw [Hp.out.1]; exact hlt)]
      rfl
end Go.Proofs.YthhjdkcnkdffcaaGreat

namespace Go.Proofs.YthhjdkcnkdffcaaGreat
set_option linter.unusedSimpArgs false
set_option linter.unusedVariables false
open Go.RowKit

/-- n cells from an offset of a block on, if they are there. -/
def rowL (w : World) (B : Nat) : Nat → Nat → Option (List Value)
  | _, 0 => some []
  | o, n + 1 =>
    match w.cell? ⟨B, o, none⟩ with
    | some v => (rowL w B (o + 1) n).map (v :: ·)
    | none => none

/-- n cells from an address on. -/
def rowA (w : World) (a : Addr) (n : Nat) : Option (Array Value) :=
  if a.spot = none then (rowL w a.block a.off n).map List.toArray else none

theorem rowL_of {w : World} {B : Nat} : ∀ (l : List Value) (o : Nat), w.rangeAt B o l → rowL w B o l.length = some l
  | [], o, _ => rfl
  | v :: l, o, h => by
    have h0 := h 0 v rfl
    rw [Nat.add_zero] at h0
    have h1 := rowL_of l (o + 1) (fun j u hu => by
      have := h (j + 1) u (by simpa using hu)
      rwa [show o + (j + 1) = o + 1 + j by omega] at this)
    simp [rowL, h0, h1]

theorem rowL_back {w : World} {B : Nat} : ∀ (n o : Nat) (l : List Value), rowL w B o n = some l → l.length = n ∧ w.rangeAt B o l
  | 0, o, l, h => by
    simp [rowL] at h; subst h
    exact ⟨rfl, fun j v hv => by simp at hv⟩
  | n + 1, o, l, h => by
    simp only [rowL] at h
    cases hc : w.cell? ⟨B, o, none⟩ with
    | none => rw [hc] at h; cases h
    | some v =>
      rw [hc] at h
      obtain ⟨r, hr, rfl⟩ := Option.map_eq_some_iff.1 h
      obtain ⟨h1, h2⟩ := rowL_back n (o + 1) r hr
      refine ⟨by simp [h1], fun j u hu => ?_⟩
      cases j with
      | zero => simp at hu; subst hu; exact hc
      | succ j =>
        have := h2 j u (by simpa using hu)
        rwa [show o + (j + 1) = o + 1 + j by omega]

theorem rowA_of {w : World} {B o n : Nat} {I : Array Value} (hs : I.size = n) (h : w.rangeAt B o I.toList) : rowA w ⟨B, o, none⟩ n = some I := by
  have := rowL_of I.toList o h
  have hl : I.toList.length = n := by simpa using hs
  rw [hl] at this
  simp [rowA, this]

/-- Out of a block that is known. -/
theorem rowA_block {w : World} {B n : Nat} {I : Array Value} {t : TypeId} {fr : Nat × Nat} (h : w.heap[B]? = some (.cells I t fr)) (hs : I.size = n) : rowA w ⟨B, 0, none⟩ n = some I := by
  have hr := World.rangeAt_of_block h 0 n
  have e : I.extract 0 (0 + n) = I := by rw [Nat.zero_add, ← hs]; simp
  rw [e] at hr
  exact rowA_of hs hr

theorem rowA_part {w : World} {B o n : Nat} {L I : Array Value} {t : TypeId} {fr : Nat × Nat} (h : w.heap[B]? = some (.cells L t fr)) (hs : I.size = n) (hI : L.extract o (o + n) = I) : rowA w ⟨B, o, none⟩ n = some I := by
  have hr := World.rangeAt_of_block h o n
  rw [hI] at hr
  exact rowA_of hs hr

theorem rowL_congr {w w' : World} {B : Nat} (h : ∀ o, w'.cell? ⟨B, o, none⟩ = w.cell? ⟨B, o, none⟩) : ∀ n o, rowL w' B o n = rowL w B o n
  | 0, o => rfl
  | n + 1, o => by simp only [rowL, h o, rowL_congr h n (o + 1)]
theorem rowA_congr {w w' : World} (h : ∀ a, w'.cell? a = w.cell? a) (a : Addr) (n : Nat) : rowA w' a n = rowA w a n := by
  unfold rowA; rw [rowL_congr (fun o => h _)]
@[go_sem] theorem rowA_drew (w : World) (a : Addr) (n : Nat) : rowA w.drew a n = rowA w a n := rowA_congr (w := w) (w' := w.drew) (fun _ => rfl) a n
@[go_sem] theorem rowA_drewN (w : World) (q : Nat) (a : Addr) (n : Nat) : rowA (w.drewN q) a n = rowA w a n := rowA_congr (w := w) (w' := w.drewN q) (fun _ => rfl) a n

theorem rowA_below {B : Nat} {w w' : World} (hb : Below B w w') {a : Addr} {n : Nat} {I : Array Value} (ha : a.block < B) (h : rowA w a n = some I) : rowA w' a n = some I := by
  obtain ⟨b, o, sp⟩ := a
  unfold rowA at h ⊢
  by_cases hs : sp = none
  · subst hs
    simp only [if_true] at h ⊢
    obtain ⟨l, hl, rfl⟩ := Option.map_eq_some_iff.1 h
    obtain ⟨h1, h2⟩ := rowL_back n o l hl
    have h3 : w'.rangeAt b o l := fun j v hv => by
      have := h2 j v hv
      rw [hb.cell (p := ⟨b, o + j, none⟩) ha]
      exact this
    have h4 := rowL_of l o h3
    rw [h1] at h4
    rw [h4]; rfl
  · simp [hs] at h

/-- The load as it is made a cell at a time. -/
def loadOld (t : TypeId) (a : Addr) : Sem Value := loadVar t a

/-- The same under another name: for where nothing stands there. -/
def loadBare (t : TypeId) (a : Addr) : Sem Value := loadVar t a
theorem loadVar_old (t : TypeId) (a : Addr) : loadVar t a = loadOld t a := rfl

/-- What a load gives, by what stands there. -/
def loadRes (P : Program) (t : TypeId) (a : Addr) (w : World) : Option (Array Value) → Result Value
  | some I => .ok (.agg I) w
  | none => (loadBare t a).run P w

@[go_sem] theorem loadRes_some (P : Program) (t : TypeId) (a : Addr) (w : World) (I : Array Value) : loadRes P t a w (some I) = .ok (.agg I) w := rfl

theorem loadVar_big {P : Program} {t : TypeId} {n : Nat} {d : TypeDesc} (hu : P.underlying t = some d) (hd : d.isRow = true) (hi : (P.info? t).map (·.size) = some n) (a : Addr) (w : World) :
    (loadOld t a).run P w = loadRes P t a w (rowA w a n) := by
  cases h : rowA w a n with
  | none => rfl
  | some I =>
    obtain ⟨b, o, sp⟩ := a
    unfold rowA at h
    by_cases hs : sp = none
    · subst hs
      simp only [if_true] at h
      obtain ⟨l, hl, rfl⟩ := Option.map_eq_some_iff.1 h
      obtain ⟨h1, h2⟩ := rowL_back n o l hl
      exact run_loadVar_mid (P := P) w b o t l d h2 hu hd (by rw [hi, h1])
    · simp [hs] at h

end Go.Proofs.YthhjdkcnkdffcaaGreat

namespace Go.Proofs.YthhjdkcnkdffcaaGreat
set_option linter.unusedSimpArgs false
set_option linter.unusedVariables false
open Go.RowKit

/-- A struct image by value, whose segments are v. -/
structure ImgV (I : Array Value) (v : Value) : Prop where
  size : I.size = 24
  segs : I[4]? = some v

theorem old_img (a : Addr) : loadVar 38 a = loadOld 38 a := rfl
theorem big_img (a : Addr) (w : World) : (loadOld 38 a).run Tryz.prog w = loadRes Tryz.prog 38 a w (rowA w a 24) := loadVar_big Tryz.underlying38 rfl (by kernel_rfl) a w
attribute [local go_sem ↓] old_img
attribute [local go_sem] big_img

theorem SegsAt.alloc {w : World} {v : Value} {l : List Seg} (h : SegsAt w v l) (o : Obj) : SegsAt (w.alloc o) v l := h.below ((Below.refl _ _).alloc (Nat.le_refl _) _)

set_option maxHeartbeats 400000 in
theorem im_first (w : World) (I : Array Value) (v : Value) (l : List Seg) (hI : ImgV I v) (h : SegsAt w v l) : Calls Tryz.prog 52 #[.agg I] w fun e w' => e = .returned (.int .i64 (firstM l)) ∧ Below w.heap.size w w' := by
  obtain ⟨p, cap, rfl⟩ := h.form
  have h1 := h.alloc (.cells I 38)
  have c4 : (w.alloc (.cells I 38)).cell? ⟨w.heap.size, 4, none⟩ = some (.slice p l.length cap) := (cell_of_row _ _ 4 _ _ _ (heap_alloc_new w _)).trans hI.segs
  have H := hid h1
  clear h1 h hI
  go_enter Tryz.func52, Tryz.ntmps52
  go_wp2_with fail
  refine (seg_index _ _ l H.out).mono ?_
  rintro e w1 ⟨rfl, hb⟩
  have Hb := hid (((Below.refl w.heap.size w).alloc (Nat.le_refl _) _).trans (hb.mono (by simp)))
  clear hb
  go_wp2_with fail
  go_ret
  exact ⟨rfl, Hb.out⟩

/-- The lowest address. -/
def lowM (l : List Seg) : Nat := match l.find? (fun s => !holeM s) with | some s => s.addr | none => 0

theorem firstM_spec (l : List Seg) : (firstM l = -1 ∧ lowM l = 0) ∨ ∃ i s, firstM l = ((i : Nat) : Int) ∧ i < l.length ∧ l[i]? = some s ∧ lowM l = s.addr := by
  by_cases h : posL l < l.length
  · refine .inr ⟨posL l, l[posL l], firstM_lt h, h, List.getElem?_eq_getElem h, ?_⟩
    unfold lowM
    have : l.find? (fun s => !holeM s) = some (l[posL l]) := by
      rw [List.find?_eq_some_iff_getElem]
      refine ⟨List.findIdx_getElem (p := fun s : Seg => !holeM s) (xs := l) (w := h), posL l, h, rfl, fun j hj => ?_⟩
      have := List.not_of_lt_findIdx (p := fun s : Seg => !holeM s) (xs := l) hj
      simpa using this
    rw [this]
  · refine .inl ⟨firstM_no h, ?_⟩
    unfold lowM
    have : l.find? (fun s => !holeM s) = none := by
      rw [List.find?_eq_none]
      intro x hx hh
      exact h (List.findIdx_lt_length_of_exists ⟨x, hx, hh⟩)
    rw [this]

set_option maxHeartbeats 400000 in
theorem im_low (w : World) (I : Array Value) (v : Value) (l : List Seg) (hI : ImgV I v) (h : SegsAt w v l) : Calls Tryz.prog 34 #[.agg I] w fun e w' => e = .returned (.int .u64 (lowM l : Int)) ∧ Below w.heap.size w w' := by
  obtain ⟨p, cap, rfl⟩ := h.form
  have hll := h.bound
  have h1 := h.alloc (.cells I 38)
  have hr := rowA_block (heap_alloc_new w (.cells I 38)) hI.size
  have H := hid (And.intro h1 hI)
  clear h1 h hI
  rcases firstM_spec l with ⟨hf, hlo⟩ | ⟨i, s, hf, hil, his, hlo⟩
  · have HF := hid (And.intro hf hlo)
    clear hf hlo
    go_enter Tryz.func34, Tryz.ntmps34
    go_wp2_with fail
    refine (im_first _ I _ l H.out.2 H.out.1).mono ?_
    rintro e w1 ⟨rfl, hb⟩
    rw [HF.out.1]
    have Hb := hid (((Below.refl w.heap.size w).alloc (Nat.le_refl _) _).trans (hb.mono (by simp)))
    clear hb
    go_wp2_with fail
    go_ret
    rw [HF.out.2]
    exact ⟨rfl, Hb.out⟩
  · have hdi : decide ((i : Int) < 0) = false := decide_eq_false (by omega)
    have HF := hid (And.intro hf (And.intro hlo his))
    clear hf hlo his
    go_enter Tryz.func34, Tryz.ntmps34
    go_wp2_with fail
    refine (im_first _ I _ l H.out.2 H.out.1).mono ?_
    rintro e w1 ⟨rfl, hb⟩
    rw [HF.out.1]
    have hbk := (hb.block w.heap.size (by simp)).trans (heap_alloc_new w _)
    have c4 : w1.cell? ⟨w.heap.size, 4, none⟩ = some (.slice p l.length cap) := (cell_of_row _ _ 4 _ _ _ hbk).trans H.out.2.segs
    obtain ⟨b, off, rfl, hcs⟩ := (H.out.1.below hb).at (by omega)
    obtain ⟨x0, x1, x2, x3, x4, x5, x6⟩ := hcs i s HF.out.2.2
    have Hb := hid (((Below.refl w.heap.size w).alloc (Nat.le_refl _) _).trans (hb.mono (by simp)))
    clear hb hbk hcs
    go_wp2_with fail
    go_ret
    rw [HF.out.2.1]
    exact ⟨rfl, Hb.out⟩
end Go.Proofs.YthhjdkcnkdffcaaGreat

namespace Go.Proofs.YthhjdkcnkdffcaaGreat
set_option linter.unusedSimpArgs false
set_option linter.unusedVariables false
open Go.RowKit

/-- Is the block at an address one of n cells of the type t? -/
def fullA (w : World) (a : Addr) (t : TypeId) (n : Nat) : Bool :=
  match a, w.heap[a.block]? with
  | ⟨_, 0, none⟩, some (.cells c t' (0, 0)) => decide (t' = t ∧ c.size = n)
  | _, _ => false

/-- The store as it is made a cell at a time. -/
def storeOld (t : TypeId) (a : Addr) (v : Value) : Sem Unit := storeVar t a v
/-- The same under another name: for where no such block stands there. -/
def storeBare (t : TypeId) (a : Addr) (v : Value) : Sem Unit := storeVar t a v

/-- What a store does, by what stands there. -/
def storeRes (P : Program) (t : TypeId) (a : Addr) (I : Array Value) (w : World) : Bool → Result Unit
  | true => .ok () (w.setRow a.block I)
  | false => (storeBare t a (.agg I)).run P w

@[go_sem] theorem storeRes_true (P : Program) (t : TypeId) (b : Nat) (I : Array Value) (w : World) : storeRes P t ⟨b, 0, none⟩ I w true = .ok () (w.setRow b I) := rfl

theorem fullA_block {w : World} {b n : Nat} {c : Array Value} {t : TypeId} (h : w.heap[b]? = some (.cells c t (0, 0))) (hn : c.size = n) : fullA w ⟨b, 0, none⟩ t n = true := by
  unfold fullA
  rw [h]
  simp [hn]

theorem fullA_out {w : World} {a : Addr} {t : TypeId} {n : Nat} (h : fullA w a t n = true) : ∃ b c, a = ⟨b, 0, none⟩ ∧ w.heap[b]? = some (.cells c t (0, 0)) ∧ c.size = n := by
  unfold fullA at h
  split at h
  · rename_i b c t' hb
    obtain ⟨rfl, h2⟩ := of_decide_eq_true h
    exact ⟨b, c, rfl, hb, h2⟩
  · cases h

theorem storeVar_big {P : Program} {t : TypeId} {n : Nat} (hi : (P.info? t).map (·.size) = some n) (a : Addr) (I : Array Value) (w : World) (hI : I.size = n) (h1 : I.all (·.oneCell') = true) :
    (storeOld t a (.agg I)).run P w = storeRes P t a I w (fullA w a t n) := by
  cases h : fullA w a t n with
  | false => rfl
  | true =>
    obtain ⟨b, c, rfl, hb, hc⟩ := fullA_out h
    exact run_storeVar_row w b t t c I hb (by rw [hi, hI]) (by rw [hc, hI]) h1

/-- The cells of a result. -/
def cellsOld (a : Addr) (n : Nat) : Sem (Array Value) := loadCellsFrom a 0 n #[]
def cellsBare (a : Addr) (n : Nat) : Sem (Array Value) := loadCellsFrom a 0 n #[]
def cellsRes (P : Program) (a : Addr) (n : Nat) (w : World) : Option (Array Value) → Result (Array Value)
  | some I => .ok I w
  | none => (cellsBare a n).run P w
@[go_sem] theorem cellsRes_some (P : Program) (a : Addr) (n : Nat) (w : World) (I : Array Value) : cellsRes P a n w (some I) = .ok I w := rfl

theorem cells_big {P : Program} (a : Addr) (n : Nat) (w : World) : (cellsOld a n).run P w = cellsRes P a n w (rowA w a n) := by
  cases h : rowA w a n with
  | none => rfl
  | some I =>
    obtain ⟨b, o, sp⟩ := a
    unfold rowA at h
    by_cases hs : sp = none
    · subst hs
      simp only [if_true] at h
      obtain ⟨l, hl, rfl⟩ := Option.map_eq_some_iff.1 h
      obtain ⟨h1, h2⟩ := rowL_back n o l hl
      subst h1
      have := run_loadCells_list (P := P) w ⟨b, o, none⟩ l (fun j v hv => by
        have hadd : (⟨b, o, none⟩ : Addr).add j = ⟨b, o + j, none⟩ := by unfold Addr.add; split <;> simp_all
        rw [hadd]; exact h2 j v hv)
      show (loadCellsFrom ⟨b, o, none⟩ 0 l.length #[]).run P w = .ok l.toArray w
      simpa [loadCells] using this
    · simp [hs] at h

/-- The zero value of a great struct. -/
def zeroOld (t : TypeId) : Sem Value := zeroValue t

attribute [go_sem] World.setRow_alloc_new

/-- The block that was made last. -/
theorem fullA_last (W : World) (c : Array Value) (t : TypeId) (B n : Nat) (h : W.heap.size = B) : fullA (W.alloc (.cells c t)) ⟨B, 0, none⟩ t n = decide (c.size = n) := by
  subst h
  unfold fullA
  rw [heap_alloc_new]
  simp
theorem setRow_last (W : World) (c c' : Array Value) (t : TypeId) (B : Nat) (h : W.heap.size = B) : (W.alloc (.cells c t)).setRow B c' = W.alloc (.cells c' t) := by
  subst h
  exact World.setRow_alloc_new W c c' t
theorem rowA_last (W : World) (c : Array Value) (t : TypeId) (B n : Nat) (h : W.heap.size = B) (hn : c.size = n) : rowA (W.alloc (.cells c t)) ⟨B, 0, none⟩ n = some c := by
  subst h
  exact rowA_block (heap_alloc_new W _) hn
theorem rowA_older (W : World) (o : Obj) (B n : Nat) (h : B < W.heap.size) : rowA (W.alloc o) ⟨B, 0, none⟩ n = rowA W ⟨B, 0, none⟩ n := by
  unfold rowA
  have : ∀ (n o' : Nat), rowL (W.alloc o) B o' n = rowL W B o' n := fun n o' => rowL_congr (fun o'' => World.cell?_alloc_lt _ _ ⟨B, o'', none⟩ h) n o'
  rw [this]

theorem setRow_self {w : World} {b : Nat} {c : Array Value} {t : TypeId} (h : w.heap[b]? = some (.cells c t (0, 0))) : w.setRow b c = w := by
  have hh : (w.setRow b c).heap = w.heap := by
    apply Array.ext_getElem?
    intro j
    by_cases hj : j = b
    · subst hj; rw [setRow_heap w j c c t _ h, h]
    · exact setRow_other w b j c hj
  cases w with
  | mk => simp [World.setRow] at hh ⊢; exact hh

theorem setRow_block {w : World} {b : Nat} {c I : Array Value} {t : TypeId} (h : w.heap[b]? = some (.cells c t (0, 0))) : (w.setRow b I).heap[b]? = some (.cells I t (0, 0)) := setRow_heap w b c I t _ h
theorem Below.setRow {B : Nat} {w w' : World} (h : Below B w w') {b : Nat} (hb : B ≤ b) (I : Array Value) : Below B w (w'.setRow b I) :=
  ⟨h.os, h.tape, h.output, by rw [setRow_size]; exact h.size, fun k hk => (setRow_other w' b k I (by omega)).trans (h.block k hk)⟩
end Go.Proofs.YthhjdkcnkdffcaaGreat

namespace Go.Proofs.YthhjdkcnkdffcaaGreat
set_option linter.unusedSimpArgs false
set_option linter.unusedVariables false
open Go.RowKit

/-- 24 cells, each of them one. -/
def ImgOk (I : Array Value) : Prop := I.size = 24 ∧ I.all (·.oneCell') = true
theorem info_img : (Tryz.prog.info? 38).map (·.size) = some 24 := by kernel_rfl
theorem old_simg (a : Addr) (v : Value) : storeVar 38 a v = storeOld 38 a v := rfl
theorem big_simg (a : Addr) (I : Array Value) (w : World) (h : ImgOk I) : (storeOld 38 a (.agg I)).run Tryz.prog w = storeRes Tryz.prog 38 a I w (fullA w a 38 24) := storeVar_big info_img a I w h.1 h.2
theorem old_cimg (a : Addr) : loadCellsFrom a 0 24 #[] = cellsOld a 24 := rfl
theorem big_cimg (a : Addr) (w : World) : (cellsOld a 24).run Tryz.prog w = cellsRes Tryz.prog a 24 w (rowA w a 24) := cells_big a 24 w

/-- An executable's image of segments and dependencies. -/
def imgP (n : Nat) (c : Nat) (p : Option Addr) (m d : Nat) (q : Option Addr) : Array Value := #[.int .i64 2, .int .i64 0, .int .u32 0, .string ⟨#[]⟩, .slice p n c, .slice q m d, .int .u64 0, .int .u64 0, .int .u64 0, .int .u64 0, .int .u64 0, .int .u64 0, .int .u64 0, .int .u64 0, .int .u64 0, .int .u64 0, .int .u64 0, .int .u64 0, .int .u64 0, .int .u64 0, .int .u64 0, .int .u64 0, .int .u64 0, .bool false]
theorem imgP_size (n c : Nat) (p : Option Addr) (m d : Nat) (q : Option Addr) : (imgP n c p m d q).size = 24 := rfl
theorem imgP_ok (n c : Nat) (p : Option Addr) (m d : Nat) (q : Option Addr) : ImgOk (imgP n c p m d q) := ⟨rfl, by kernel_rfl⟩
theorem big_simgP (a : Addr) (n c : Nat) (p : Option Addr) (m d : Nat) (q : Option Addr) (w : World) : (storeOld 38 a (.agg #[.int .i64 2, .int .i64 0, .int .u32 0, .string ⟨#[]⟩, .slice p n c, .slice q m d, .int .u64 0, .int .u64 0, .int .u64 0, .int .u64 0, .int .u64 0, .int .u64 0, .int .u64 0, .int .u64 0, .int .u64 0, .int .u64 0, .int .u64 0, .int .u64 0, .int .u64 0, .int .u64 0, .int .u64 0, .int .u64 0, .int .u64 0, .bool false])).run Tryz.prog w = storeRes Tryz.prog 38 a (imgP n c p m d q) w (fullA w a 38 24) := big_simg a (imgP n c p m d q) w (imgP_ok n c p m d q)
end Go.Proofs.YthhjdkcnkdffcaaGreat

namespace Go.Proofs.YthhjdkcnkdffcaaGreat
set_option linter.unusedSimpArgs false
set_option linter.unusedVariables false
open Go.RowKit

def highS (h : Nat) (s : Seg) : Nat := if holeM s then h else max h ((s.addr + s.size) % 18446744073709551616)
/-- Where an image ends. -/
def highM (l : List Seg) : Nat := l.foldl highS 0

theorem highM_take {l : List Seg} {k : Nat} {s : Seg} (h : l[k]? = some s) : highM (l.take (k + 1)) = highS (highM (l.take k)) s := by
  have hk := (List.getElem?_eq_some_iff.1 h)
  obtain ⟨hlt, he⟩ := hk
  unfold highM
  rw [List.take_succ_eq_append_getElem hlt, List.foldl_append, he]
  rfl

theorem highM_lt (l : List Seg) : highM l < 18446744073709551616 := by
  unfold highM
  have : ∀ (l : List Seg) (h : Nat), h < 18446744073709551616 → l.foldl highS h < 18446744073709551616 := by
    intro l
    induction l with
    | nil => intro h hh; exact hh
    | cons s r ih =>
      intro h hh
      refine ih _ ?_
      unfold highS
      split
      · exact hh
      · omega
  exact this l 0 (by decide)

set_option maxHeartbeats 800000 in
theorem im_high (w : World) (I : Array Value) (v : Value) (l : List Seg) (hI : ImgV I v) (h : SegsAt w v l) : Calls Tryz.prog 40 #[.agg I] w fun e w' => e = .returned (.int .u64 (highM l : Int)) ∧ Below w.heap.size w w' := by
  obtain ⟨p, cap, rfl⟩ := h.form
  have hll := h.bound
  have c4 : (w.alloc (.cells I 38)).cell? ⟨w.heap.size, 4, none⟩ = some (.slice p l.length cap) := (cell_of_row _ _ 4 _ _ _ (heap_alloc_new w _)).trans hI.segs
  obtain ⟨N, hN⟩ : ∃ N, N = l.length := ⟨_, rfl⟩
  have H := hid (And.intro h hN)
  rw [← hN] at c4 hll
  clear h hI hN
  go_enter Tryz.func40, Tryz.ntmps40
  go_wp2_with fail
  clear c4
  go_loopw [3, 9] (fun hi i wr => ∃ k : Nat, k ≤ N ∧ i = .int .i64 (k : Int) ∧ hi = .int .u64 (highM (l.take k) : Int) ∧ Below w.heap.size w wr) (fun _ i _ => N - (intOf i).toNat)
  case atStart => exact ⟨0, by omega, rfl, rfl, (Below.refl _ _).alloc (Nat.le_refl _) _⟩
  case round =>
    obtain ⟨k, hk, rfl, rfl, hb⟩ := hrel
    have hz := hb.size
    obtain ⟨M, hM⟩ : ∃ M, M = highM (l.take k) := ⟨_, rfl⟩
    have hMl : M < 18446744073709551616 := by rw [hM]; exact highM_lt _
    rw [← hM]
    by_cases hlt : k < N
    · have hvr := H.out.1.below hb
      rw [← H.out.2] at hvr
      obtain ⟨g, off, rfl, hcs⟩ := hvr.at (by have := H.out.2; omega)
      obtain ⟨s, hs⟩ : ∃ s, l[k]? = some s := ⟨_, List.getElem?_eq_getElem (by have := H.out.2; omega)⟩
      obtain ⟨x0, x1, x2, x3, x4, x5, x6⟩ := hcs k s hs
      have hst := highM_take hs
      rw [← hM] at hst
      obtain ⟨q, hq⟩ : ∃ q, q = holeM s := ⟨_, rfl⟩
      have HC := hid (fun w => by have := im_hole w s; unfold Seg.v at this; rwa [← hq] at this)
      obtain ⟨E, hE⟩ : ∃ E, E = (s.addr + s.size) % 18446744073709551616 := ⟨_, rfl⟩
      have hwE : IntKind.u64.wrap ((s.addr : Int) + (s.size : Int)) = (E : Int) := by
        show ((s.addr : Int) + (s.size : Int)) % 18446744073709551616 = _
        omega
      have Hs := hid (And.intro hst (And.intro hq (And.intro hE hb)))
      clear hcs hs hvr hst hq hE hb hM
      go_wp2_with fail
      refine (HC.out _).mono ?_
      rintro e w1 ⟨rfl, hb1⟩
      have hbk := (hb1.block wr.heap.size (by simp)).trans (heap_alloc_new wr _)
      have c1 : w1.cell? ⟨wr.heap.size, 1, none⟩ = some (.int .u64 (s.addr : Int)) := cell_of_row _ _ 1 _ _ _ hbk
      have c2 : w1.cell? ⟨wr.heap.size, 2, none⟩ = some (.int .u64 (s.size : Int)) := cell_of_row _ _ 2 _ _ _ hbk
      have hb2 : Below wr.heap.size wr w1 := ((Below.refl wr.heap.size wr).alloc (Nat.le_refl _) _).trans (hb1.mono (by simp))
      have H2 := hid (Hs.out.2.2.2.trans (hb2.mono Hs.out.2.2.2.size))
      clear hb1 hbk hb2
      cases q with
      | true =>
        go_wp2_with fail
        go_roundw
        case rel => exact ⟨k + 1, by omega, by go_num, by rw [Hs.out.1]; unfold highS; rw [← Hs.out.2.1]; rfl, H2.out⟩
        case measure => simp [intOf]; omega
      | false =>
        go_wp2_with fail
        refine ⟨⟨k + 1, by omega, by go_num, ?_, H2.out⟩, by simp [intOf]; omega⟩
        have e : highS M s = max M E := by unfold highS; rw [← Hs.out.2.1, ← Hs.out.2.2.1]; rfl
        rw [Hs.out.1, e]
        congr 1
        split <;> omega
    · have hkN : k = N := by omega
      have HE := hid (And.intro hkN (And.intro hM hb))
      clear hkN hM hb
      go_wp2_with fail
      go_ret
      have e : l.take k = l := List.take_of_length_le (by have := H.out.2; have := HE.out.1; omega)
      refine ⟨?_, HE.out.2.2⟩
      rw [HE.out.2.1, e]
      rfl
end Go.Proofs.YthhjdkcnkdffcaaGreat
