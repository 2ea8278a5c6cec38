/- slices.ContainsFunc over strings and files; script.May. -/
import Derived.Test.YtfkpbgookilhjaaGreatDoorZScO
import Derived.Test.YtfkpbgookilhjaaGreatDoorZAppend
import Derived.Test.YtfkpbgookilhjaaGreatDoorRows
namespace Go.Proofs.YtfkpbgookilhjaaGreatDoor
set_option linter.unusedSimpArgs false
set_option linter.unusedVariables false
open Go.RowKit

/-- The first that is so; -1, if none is. -/
def idxT {α : Type} (test : α → Bool) (l : List α) : Int := if l.findIdx test < l.length then (l.findIdx test : Int) else -1
theorem idxT_lt {α : Type} {test : α → Bool} {l : List α} (h : l.findIdx test < l.length) : idxT test l = l.findIdx test := if_pos h
theorem idxT_no {α : Type} {test : α → Bool} {l : List α} (h : ¬ l.findIdx test < l.length) : idxT test l = -1 := if_neg h
theorem idxT_any {α : Type} (test : α → Bool) (l : List α) : decide ((0 : Int) ≤ idxT test l) = l.any test := by
  by_cases h : l.findIdx test < l.length
  · rw [idxT_lt h, decide_eq_true (by omega)]
    obtain ⟨x, hx, h2⟩ := List.findIdx_lt_length.1 h
    exact (List.any_eq_true.2 ⟨x, hx, h2⟩).symm
  · rw [idxT_no h]
    cases ha : l.any test with
    | false => rfl
    | true =>
      obtain ⟨x, hx, h2⟩ := List.any_eq_true.1 ha
      exact absurd (List.findIdx_lt_length.2 ⟨x, hx, h2⟩) h
theorem idx_here {α : Type} {test : α → Bool} {l : List α} {k : Nat} {s : α} (hs : l[k]? = some s) (hk : k ≤ l.findIdx test) (ht : test s = true) : l.findIdx test = k := by
  obtain ⟨hlt, rfl⟩ := List.getElem?_eq_some_iff.1 hs
  rcases Nat.lt_or_ge k (l.findIdx test) with h | h
  · have := List.not_of_lt_findIdx h
    rw [ht] at this
    simp at this
  · omega
theorem idx_more {α : Type} {test : α → Bool} {l : List α} {k : Nat} {s : α} (hs : l[k]? = some s) (hk : k ≤ l.findIdx test) (ht : test s = false) : k < l.findIdx test := by
  obtain ⟨hlt, rfl⟩ := List.getElem?_eq_some_iff.1 hs
  rcases Nat.lt_or_eq_of_le hk with h | h
  · exact h
  · have h2 := List.findIdx_getElem (p := test) (xs := l) (w := by rw [← h]; exact hlt)
    have h3 : l[l.findIdx test]'(by rw [← h]; exact hlt) = l[k] := by congr 1; exact h.symm
    rw [h3, ht] at h2
    cases h2

set_option maxHeartbeats 400000 in
theorem sc_short (w : World) (s : List UInt8) : Calls Tryz.prog 29 #[.string (mkS s)] w fun e w' => e = .returned (.bool (!longS s)) ∧ Below w.heap.size w w' := by
  have hd : (!longS s) = decide ((s.length : Int) ≤ 255) := by
    unfold longS
    by_cases h : s.length ≤ 255
    · rw [decide_eq_false (by omega), decide_eq_true (by omega)]; rfl
    · rw [decide_eq_true (by omega), decide_eq_false (by omega)]; rfl
  rw [hd]
  clear hd
  go_enter Tryz.func29, Tryz.ntmps29
  go_wp2
  go_ret
  first
    | exact ⟨rfl, Below.refl _ _⟩
    | exact ⟨by simp, Below.refl _ _⟩

set_option maxHeartbeats 400000 in
theorem sc_long2 (w : World) (s : List UInt8) : Calls Tryz.prog 31 #[.string (mkS s)] w fun e w' => e = .returned (.bool (longS s)) ∧ Below w.heap.size w w' := by
  go_enter Tryz.func31, Tryz.ntmps31
  go_wp2_with fail
  refine (sc_short _ s).mono ?_
  rintro e w1 ⟨rfl, hb1⟩
  have H := hid hb1
  clear hb1
  go_wp2_with fail
  go_ret
  exact ⟨by simp, H.out⟩

set_option maxHeartbeats 400000 in
theorem sc_long1 (w : World) (f : FileV) : Calls Tryz.prog 28 #[.agg f.cells.toArray] w fun e w' => e = .returned (.bool (longV f)) ∧ Below w.heap.size w w' := by
  show Calls Tryz.prog 28 #[.agg #[.string (mkS f.name), .slice f.p f.n f.cap]] w _
  obtain ⟨b, hb⟩ : ∃ b, b = longS f.name := ⟨_, rfl⟩
  have hv : longV f = (b || decide (1048576 < f.n)) := by rw [hb]; rfl
  have HC := hid (fun w => by have := sc_short w f.name; rwa [← hb] at this)
  have H0 := hid ((Below.refl w.heap.size w).alloc (Nat.le_refl _) (.cells #[.string (mkS f.name), .slice f.p f.n f.cap] 39))
  rw [hv]
  clear hv hb
  go_enter Tryz.func28, Tryz.ntmps28
  go_wp2_with fail
  refine (HC.out _).mono ?_
  rintro e w1 ⟨rfl, hb1⟩
  have x1 : w1.cell? ⟨w.heap.size, 1, none⟩ = some (.slice f.p f.n f.cap) := below_cell' hb1 (by simp) (by simp)
  have H := hid (H0.out.trans (hb1.mono H0.out.size))
  clear hb1
  cases b with
  | true =>
    go_wp2_with fail
    go_ret
    exact ⟨rfl, H.out⟩
  | false =>
    go_wp2_with fail
    go_ret
    exact ⟨by simp; omega, H.out⟩

set_option maxHeartbeats 400000 in
theorem index_strs (w : World) (p : Option Addr) (cap : Nat) (l : List (List UInt8)) (hv : StrsAt w (.slice p l.length cap) l) :
    Calls Tryz.prog 70 #[.slice p l.length cap, .func (.func 31) #[] #[]] w fun e w' => e = .returned (.int .i64 (idxT longS l)) ∧ Below w.heap.size w w' := by
  have hll : l.length ≤ 9223372036854775807 := hv.len
  have hpl : l.findIdx longS ≤ l.length := List.findIdx_le_length
  have H := hid hv
  clear hv
  go_enter Tryz.func70, Tryz.ntmps70
  go_wp2_with fail
  go_loopw [8] (fun i wr => ∃ k : Nat, k ≤ l.findIdx longS ∧ i = .int .i64 (k : Int) ∧ Below w.heap.size w wr) (fun i _ => l.length - (intOf i).toNat)
  case atStart => exact ⟨0, Nat.zero_le _, rfl, Below.refl _ _⟩
  case round =>
    obtain ⟨k, hk, rfl, hb⟩ := hrel
    have hsz := hb.size
    by_cases hlt : k < l.length
    · obtain ⟨s, hs⟩ : ∃ s, l[k]? = some s := ⟨_, List.getElem?_eq_getElem hlt⟩
      obtain ⟨g, off, rfl, x0⟩ := StrsAt.cell (RowsAt.below H.out hb) hs
      obtain ⟨bq, hbq⟩ : ∃ bq, bq = longS s := ⟨_, rfl⟩
      have HC := hid (fun w => by have := sc_long2 w s; rwa [← hbq] at this)
      have Hs := hid (And.intro hb (And.intro hs (And.intro hk hbq)))
      clear hb hs hbq hk
      go_wp2_with fail
      refine (HC.out _).mono ?_
      rintro e w1 ⟨rfl, hb1⟩
      have Hb1 := hid hb1
      clear hb1
      cases bq with
      | true =>
        go_wp2
        go_ret
        have hkp := idx_here Hs.out.2.1 Hs.out.2.2.1 Hs.out.2.2.2.symm
        refine ⟨?_, Hs.out.1.trans (Hb1.out.mono hsz)⟩
        rw [idxT_lt (by omega), hkp]
        try rfl
      | false =>
        have hkp := idx_more Hs.out.2.1 Hs.out.2.2.1 Hs.out.2.2.2.symm
        go_wp2
        exact ⟨⟨k + 1, by omega, by go_num, Hs.out.1.trans (Hb1.out.mono hsz)⟩, by simp [intOf]; omega⟩
    · have hkp : l.findIdx longS = k := by omega
      have Hp := hid (And.intro hkp hb)
      clear hkp hb
      go_wp2
      go_ret
      rw [idxT_no (by rw [Hp.out.1]; exact hlt)]
      exact ⟨rfl, Hp.out.2⟩

set_option maxHeartbeats 400000 in
theorem any_strs (w : World) (p : Option Addr) (cap : Nat) (l : List (List UInt8)) (hv : StrsAt w (.slice p l.length cap) l) :
    Calls Tryz.prog 30 #[.slice p l.length cap, .func (.func 31) #[] #[]] w fun e w' => e = .returned (.bool (l.any longS)) ∧ Below w.heap.size w w' := by
  have hI := index_strs w p cap l hv
  rw [← idxT_any]
  obtain ⟨z, hz⟩ : ∃ z, z = idxT longS l := ⟨_, rfl⟩
  rw [← hz] at hI ⊢
  have HI := hid hI
  clear hI hz hv
  go_enter Tryz.func30, Tryz.ntmps30
  go_wp2_with fail
  refine (HI.out).mono ?_
  rintro e w1 ⟨rfl, hb1⟩
  have H := hid hb1
  clear hb1
  go_wp2_with fail
  go_ret
  exact ⟨rfl, H.out⟩

set_option maxHeartbeats 400000 in
theorem index_files (w : World) (p : Option Addr) (cap : Nat) (l : List FileV) (hv : FilesAt w (.slice p l.length cap) l) :
    Calls Tryz.prog 71 #[.slice p l.length cap, .func (.func 28) #[] #[]] w fun e w' => e = .returned (.int .i64 (idxT longV l)) ∧ Below w.heap.size w w' := by
  have hll : l.length ≤ 9223372036854775807 := hv.len
  have hpl : l.findIdx longV ≤ l.length := List.findIdx_le_length
  have H := hid hv
  clear hv
  go_enter Tryz.func71, Tryz.ntmps71
  go_wp2_with fail
  go_loopw [8] (fun i wr => ∃ k : Nat, k ≤ l.findIdx longV ∧ i = .int .i64 (k : Int) ∧ Below w.heap.size w wr) (fun i _ => l.length - (intOf i).toNat)
  case atStart => exact ⟨0, Nat.zero_le _, rfl, Below.refl _ _⟩
  case round =>
    obtain ⟨k, hk, rfl, hb⟩ := hrel
    have hsz := hb.size
    by_cases hlt : k < l.length
    · obtain ⟨s, hs⟩ : ∃ s, l[k]? = some s := ⟨_, List.getElem?_eq_getElem hlt⟩
      obtain ⟨g, off, rfl, x0, x1⟩ := FilesAt.cell (RowsAt.below H.out hb) hs
      obtain ⟨bq, hbq⟩ : ∃ bq, bq = longV s := ⟨_, rfl⟩
      have HC := hid (fun w => by have := sc_long1 w s; rwa [← hbq] at this)
      have Hs := hid (And.intro hb (And.intro hs (And.intro hk hbq)))
      clear hb hs hbq hk
      go_wp2_with fail
      refine (HC.out _).mono ?_
      rintro e w1 ⟨rfl, hb1⟩
      have Hb1 := hid hb1
      clear hb1
      cases bq with
      | true =>
        go_wp2
        go_ret
        have hkp := idx_here Hs.out.2.1 Hs.out.2.2.1 Hs.out.2.2.2.symm
        refine ⟨?_, Hs.out.1.trans (Hb1.out.mono hsz)⟩
        rw [idxT_lt (by omega), hkp]
        try rfl
      | false =>
        have hkp := idx_more Hs.out.2.1 Hs.out.2.2.1 Hs.out.2.2.2.symm
        go_wp2
        exact ⟨⟨k + 1, by omega, by go_num, Hs.out.1.trans (Hb1.out.mono hsz)⟩, by simp [intOf]; omega⟩
    · have hkp : l.findIdx longV = k := by omega
      have Hp := hid (And.intro hkp hb)
      clear hkp hb
      go_wp2
      go_ret
      rw [idxT_no (by rw [Hp.out.1]; exact hlt)]
      exact ⟨rfl, Hp.out.2⟩

set_option maxHeartbeats 400000 in
theorem any_files (w : World) (p : Option Addr) (cap : Nat) (l : List FileV) (hv : FilesAt w (.slice p l.length cap) l) :
    Calls Tryz.prog 32 #[.slice p l.length cap, .func (.func 28) #[] #[]] w fun e w' => e = .returned (.bool (l.any longV)) ∧ Below w.heap.size w w' := by
  have hI := index_files w p cap l hv
  rw [← idxT_any]
  obtain ⟨z, hz⟩ : ∃ z, z = idxT longV l := ⟨_, rfl⟩
  rw [← hz] at hI ⊢
  have HI := hid hI
  clear hI hz hv
  go_enter Tryz.func32, Tryz.ntmps32
  go_wp2_with fail
  refine (HI.out).mono ?_
  rintro e w1 ⟨rfl, hb1⟩
  have H := hid hb1
  clear hb1
  go_wp2_with fail
  go_ret
  exact ⟨rfl, H.out⟩

/-- The short tests of a job. -/
def headV (j : JobV) : Bool := (j.arch == 1 || j.arch == 2) && decide (j.fs.length ≤ 64) && decide (j.ins.length ≤ 64) && decide (j.main.length ≤ 255)
theorem mayJ_V {w : World} {j : JobV} (h : JobAt w j) : mayJ j.m = (headV j && !j.ins.any longS && !j.fs.any longV) := by
  unfold mayJ headV JobV.m
  rw [any_longV h.each]
  simp

set_option maxHeartbeats 4000000 in
theorem sc_may (w : World) (j : JobV) (h : JobAt w j) : Calls Tryz.prog 10 #[.agg j.cells] w fun e w' => e = .returned (.bool (mayJ j.m)) ∧ Below w.heap.size w w' := by
  rw [mayJ_V h]
  have hb0 := (Below.refl w.heap.size w).alloc (Nat.le_refl _) (.cells j.cells 27)
  have hx0 := JobBox.new w j
  obtain ⟨s3, hs3⟩ : ∃ b, b = longS j.main := ⟨_, rfl⟩
  obtain ⟨s1, hs1⟩ : ∃ b, b = j.ins.any longS := ⟨_, rfl⟩
  obtain ⟨s2, hs2⟩ : ∃ b, b = j.fs.any longV := ⟨_, rfl⟩
  have hm : decide (j.main.length ≤ 255) = !s3 := by
    rw [hs3]; unfold longS
    by_cases h : j.main.length ≤ 255
    · rw [decide_eq_true h, decide_eq_false (by omega)]; rfl
    · rw [decide_eq_false h, decide_eq_true (by omega)]; rfl
  have HS := hid (fun W => by have := sc_short W j.main; rwa [← hs3] at this)
  have HA := hid (fun W (hb : Below w.heap.size w W) => by have := any_strs W j.ip j.ic j.ins (RowsAt.below h.ins hb); rwa [← hs1] at this)
  have HF := hid (fun W (hb : Below w.heap.size w W) => by have := any_files W j.fp j.fc j.fs (RowsAt.below h.files hb); rwa [← hs2] at this)
  unfold headV
  rw [hm, ← hs1, ← hs2]
  have H0 := hid (And.intro hb0 hx0)
  clear hm hs1 hs2 hs3 h hb0 hx0
  show Calls Tryz.prog 10 #[.agg #[.slice j.fp j.fs.length j.fc, .string (mkS j.main), .slice j.ip j.ins.length j.ic, .int .i64 j.arch, .int .u64 (j.base : Int), .bool j.flat]] w _
  have ha : ((j.arch == 1) = true ∧ (j.arch == 2) = false) ∨ ((j.arch == 1) = false ∧ (j.arch == 2) = true) ∨ ((j.arch == 1) = false ∧ (j.arch == 2) = false) := by
    by_cases h1 : j.arch = 1
    · rw [h1]; exact .inl ⟨rfl, rfl⟩
    · by_cases h2 : j.arch = 2
      · rw [h2]; exact .inr (.inl ⟨rfl, rfl⟩)
      · exact .inr (.inr ⟨by simpa using h1, by simpa using h2⟩)
  rcases ha with ⟨a1, a2⟩ | ⟨a1, a2⟩ | ⟨a1, a2⟩
  · by_cases hf : j.fs.length ≤ 64
    · have df1 : decide ((j.fs.length : Int) ≤ 64) = true := decide_eq_true (by omega)
      have df2 : decide (j.fs.length ≤ 64) = true := decide_eq_true hf
      by_cases hi : j.ins.length ≤ 64
      · have di1 : decide ((j.ins.length : Int) ≤ 64) = true := decide_eq_true (by omega)
        have di2 : decide (j.ins.length ≤ 64) = true := decide_eq_true hi
        go_enter Tryz.func10, Tryz.ntmps10
        go_wp2_with fail
        refine (HS.out _).mono ?_
        rintro e w1 ⟨rfl, hb1⟩
        obtain ⟨x0, x1, x2, x3, x4, x5⟩ := (JobBox.below H0.out.2 hb1).at
        have H1 := hid (And.intro (H0.out.1.trans (hb1.mono (by simp))) (JobBox.below H0.out.2 hb1))
        clear hb1
        cases s3 with
        | true =>
          go_wp2_with fail
          go_ret
          exact ⟨by simp [*], H1.out.1⟩
        | false =>
          go_wp2_with fail
          refine (HA.out _ H1.out.1).mono ?_
          rintro e w2 ⟨rfl, hb2⟩
          have hz1 := H1.out.1.size
          have H2 := hid (And.intro (H1.out.1.trans (hb2.mono hz1)) (JobBox.below H1.out.2 hb2))
          clear hb2 x0 x1 x2 x3 x4 x5
          obtain ⟨x0, x1, x2, x3, x4, x5⟩ := (H2.out.2).at
          cases s1 with
          | true =>
            go_wp2_with fail
            go_ret
            exact ⟨by simp [*], H2.out.1⟩
          | false =>
            go_wp2_with fail
            refine (HF.out _ H2.out.1).mono ?_
            rintro e w3 ⟨rfl, hb3⟩
            have hz2 := H2.out.1.size
            have H3 := hid (H2.out.1.trans (hb3.mono hz2))
            clear hb3
            cases s2 with
            | true =>
              go_wp2_with fail
              go_ret
              exact ⟨by simp [*], H3.out⟩
            | false =>
              go_wp2_with fail
              go_ret
              exact ⟨by simp [*], H3.out⟩
      · have di1 : decide ((j.ins.length : Int) ≤ 64) = false := decide_eq_false (by omega)
        have di2 : decide (j.ins.length ≤ 64) = false := decide_eq_false hi
        go_enter Tryz.func10, Tryz.ntmps10
        go_wp2_with fail
        go_ret
        exact ⟨by simp [*], H0.out.1⟩
    · have df1 : decide ((j.fs.length : Int) ≤ 64) = false := decide_eq_false (by omega)
      have df2 : decide (j.fs.length ≤ 64) = false := decide_eq_false hf
      go_enter Tryz.func10, Tryz.ntmps10
      go_wp2_with fail
      go_ret
      exact ⟨by simp [*], H0.out.1⟩
  · by_cases hf : j.fs.length ≤ 64
    · have df1 : decide ((j.fs.length : Int) ≤ 64) = true := decide_eq_true (by omega)
      have df2 : decide (j.fs.length ≤ 64) = true := decide_eq_true hf
      by_cases hi : j.ins.length ≤ 64
      · have di1 : decide ((j.ins.length : Int) ≤ 64) = true := decide_eq_true (by omega)
        have di2 : decide (j.ins.length ≤ 64) = true := decide_eq_true hi
        go_enter Tryz.func10, Tryz.ntmps10
        go_wp2_with fail
        refine (HS.out _).mono ?_
        rintro e w1 ⟨rfl, hb1⟩
        obtain ⟨x0, x1, x2, x3, x4, x5⟩ := (JobBox.below H0.out.2 hb1).at
        have H1 := hid (And.intro (H0.out.1.trans (hb1.mono (by simp))) (JobBox.below H0.out.2 hb1))
        clear hb1
        cases s3 with
        | true =>
          go_wp2_with fail
          go_ret
          exact ⟨by simp [*], H1.out.1⟩
        | false =>
          go_wp2_with fail
          refine (HA.out _ H1.out.1).mono ?_
          rintro e w2 ⟨rfl, hb2⟩
          have hz1 := H1.out.1.size
          have H2 := hid (And.intro (H1.out.1.trans (hb2.mono hz1)) (JobBox.below H1.out.2 hb2))
          clear hb2 x0 x1 x2 x3 x4 x5
          obtain ⟨x0, x1, x2, x3, x4, x5⟩ := (H2.out.2).at
          cases s1 with
          | true =>
            go_wp2_with fail
            go_ret
            exact ⟨by simp [*], H2.out.1⟩
          | false =>
            go_wp2_with fail
            refine (HF.out _ H2.out.1).mono ?_
            rintro e w3 ⟨rfl, hb3⟩
            have hz2 := H2.out.1.size
            have H3 := hid (H2.out.1.trans (hb3.mono hz2))
            clear hb3
            cases s2 with
            | true =>
              go_wp2_with fail
              go_ret
              exact ⟨by simp [*], H3.out⟩
            | false =>
              go_wp2_with fail
              go_ret
              exact ⟨by simp [*], H3.out⟩
      · have di1 : decide ((j.ins.length : Int) ≤ 64) = false := decide_eq_false (by omega)
        have di2 : decide (j.ins.length ≤ 64) = false := decide_eq_false hi
        go_enter Tryz.func10, Tryz.ntmps10
        go_wp2_with fail
        go_ret
        exact ⟨by simp [*], H0.out.1⟩
    · have df1 : decide ((j.fs.length : Int) ≤ 64) = false := decide_eq_false (by omega)
      have df2 : decide (j.fs.length ≤ 64) = false := decide_eq_false hf
      go_enter Tryz.func10, Tryz.ntmps10
      go_wp2_with fail
      go_ret
      exact ⟨by simp [*], H0.out.1⟩
  · go_enter Tryz.func10, Tryz.ntmps10
    go_wp2_with fail
    go_ret
    exact ⟨by simp [*], H0.out.1⟩
end Go.Proofs.YtfkpbgookilhjaaGreatDoor
