/- Which exports may be: the reference's May. -/
import Derived.Test.YthhjdkcnkdffcaaGreatZTMay
import Derived.Laws.IdiomStrings
namespace Go.Proofs.YthhjdkcnkdffcaaGreat
set_option linter.unusedSimpArgs false
set_option linter.unusedVariables false
open Go.RowKit
set_option maxHeartbeats 400000 in
theorem ref_name (w : World) (p : Option Addr) (n cap : Nat) (l : List UInt8) (h : BS w (.slice p n cap) l) :
    Calls Tryz.prog 54 #[.slice p n cap] w fun e w' => e = .returned (.string (mkS (l.take (nul l)))) ∧ w = w' := by
  have hl := h.len
  have hcp := h.cap
  subst hl
  have hnl := nul_le l
  have hcv := run_toString (P := Tryz.prog) (dst := 9) p (nul l) cap un_bs8 un_u8 un_str (pre_bs h (hi := nul l) (m := cap) hnl (by omega) (Nat.le_refl _))
  have hsl := fun (w : World) => run_subh (P := Tryz.prog) (w := w) (t := 27) p l.length cap un_bs (sz_u8 w) .i64 (nul l) (by omega) (by omega)
  simp only [Int.toNat_natCast] at hsl
  have H := hid (And.intro h hcv)
  clear h hcv
  go_enter Tryz.func54, Tryz.ntmps54
  go_wp2_with fail
  go_loop [3] (fun i => ∃ j : Nat, j ≤ nul l ∧ i = .int .i64 j) (fun i => l.length - (intOf i).toNat)
  case atStart => exact ⟨0, Nat.zero_le _, rfl⟩
  case round =>
    obtain ⟨j, hj, rfl⟩ := hrel
    by_cases hlt : j < nul l
    · obtain ⟨x, hx, hx0⟩ := nul_lt hlt
      have hjl : j < l.length := by omega
      obtain ⟨b, off, rfl, hcell⟩ := H.out.1.at (by omega)
      have hcl := hcell j x hx
      have hne : ((x.toNat : Int) != 0) = true := by
        rw [bne_iff_ne]; intro e
        exact hx0 (UInt8.toNat_inj.1 (by simp; omega))
      clear hx hx0 hcell
      go_wp2
      go_round
      case rel => exact ⟨j + 1, by omega, by go_num⟩
      case measure => simp [intOf]; omega
    · obtain rfl : j = nul l := by omega
      have hcv := H.out.2
      by_cases hend : nul l < l.length
      · have hx := nul_at hend
        obtain ⟨b, off, rfl, hcell⟩ := H.out.1.at (by omega)
        have hcl := hcell _ _ hx
        have hcl : w.cell? ⟨b, off + nul l, none⟩ = some (.int .u8 0) := hcl
        clear hx hcell
        go_wp2
        go_ret
        exact ⟨rfl, rfl⟩
      · go_wp2
        go_ret
        exact ⟨rfl, rfl⟩
/-- What '[]byte(s)' lays, read. -/
theorem bs_bytes (w : World) (l : List UInt8) (cap : Nat) (t : TypeId) (m : Nat × Nat) (hc : l.length ≤ cap) (hm : cap ≤ maxLen) (hl : l.length ≤ 140737488355328) :
    BS (w.alloc (.cells (bytesRow (mkS l) cap) t m)) (.slice (some ⟨w.heap.size, 0, none⟩) l.length cap) l := by
  refine ⟨_, cap, rfl, hc, ⟨hm, hl⟩, fun _ => ⟨w.heap.size, 0, rfl, fun i x hx => ?_⟩⟩
  have hi : i < l.length := (List.getElem?_eq_some_iff.1 hx).1
  have hg := bytesRow_at (mkS l) cap i (by simpa [mkS] using hi)
  rw [Nat.zero_add]
  have hb : (w.alloc (.cells (bytesRow (mkS l) cap) t m)).heap[w.heap.size]? = some (.cells (bytesRow (mkS l) cap) t m) := heap_alloc_new _ _
  rw [cell_of_row _ _ i _ _ _ hb, hg]
  have : (mkS l).data[i]'(by simpa [mkS] using hi) = x := by
    have h2 := List.getElem?_eq_some_iff.1 hx
    simpa [mkS] using h2.2
  rw [this]
/-- '[]byte(s)'. -/
theorem bytes_of (w : World) (l : List UInt8) (hl : l.length ≤ 140737488355328) :
    ∃ p cap W, (convert 9 27 (.string (mkS l))).run Tryz.prog w = .ok (.slice p l.length cap) W ∧ BS W (.slice p l.length cap) l ∧ Below w.heap.size w W := by
  have h := run_bytes_of_string (P := Tryz.prog) w 9 27 5 (mkS l) un_str un_bs8 un_u8
  rw [mkS_size] at h
  refine ⟨_, _, _, h, ?_, ?_⟩
  · exact bs_bytes w.drew l _ _ _ (grownCap_ge _ _ _ _) (grownCap_le_maxLen _ _ _ _ (by simp only [maxLen]; omega)) hl
  · exact (Below.refl w.heap.size w).drew.alloc (Nat.le_refl _) _
set_option maxRecDepth 100000 in
set_option maxHeartbeats 1000000 in
theorem ref_text (w : World) (nm : List UInt8) (least : Nat) (hl : least ≤ 1) :
    Calls Tryz.prog 38 #[.string (mkS nm), .int .i64 (least : Nat)] w fun e w' => e = .returned (.bool (textB nm least)) ∧ Below w.heap.size w w' := by
  have hle := nul_le nm
  by_cases h1 : nm.length < least
  · have hm : textB nm least = false := by unfold textB; simp only [decide_eq_false_iff_not]; omega
    rw [hm]
    clear hm
    have hd : decide ((least : Int) ≤ (nm.length : Int)) = false := by simp; omega
    go_enter Tryz.func38, Tryz.ntmps38
    go_wp2
    go_ret
    exact ⟨rfl, Below.refl _ _⟩
  have hd : decide ((least : Int) ≤ (nm.length : Int)) = true := by simp; omega
  by_cases h2 : 255 < nm.length
  · have hm : textB nm least = false := by unfold textB; simp only [decide_eq_false_iff_not]; omega
    rw [hm]
    clear hm
    have hd2 : decide ((nm.length : Int) ≤ 255) = false := by simp; omega
    go_enter Tryz.func38, Tryz.ntmps38
    go_wp2
    go_ret
    exact ⟨rfl, Below.refl _ _⟩
  have hd2 : decide ((nm.length : Int) ≤ 255) = true := by simp; omega
  have hm : textB nm least = decide (nul nm = nm.length) := by unfold textB; rw [decide_eq_decide]; omega
  rw [hm]
  clear hm
  obtain ⟨p, cap, W, hrun, hbs, hb⟩ := bytes_of w nm (by omega)
  have H := hid (And.intro hbs hb)
  have he : (nm.take (nul nm) == nm) = decide (nul nm = nm.length) := by
    by_cases h : nul nm = nm.length
    · rw [decide_eq_true h, List.take_of_length_le (by omega)]; simp
    · rw [decide_eq_false h, beq_eq_false_iff_ne]
      intro e
      have := congrArg List.length e
      rw [List.length_take] at this
      omega
  obtain ⟨T, hT⟩ : ∃ T, T = nm.take (nul nm) := ⟨_, rfl⟩
  have hname := fun W' => ref_name W' p nm.length cap nm
  rw [← hT] at he hname
  have Hn := hid hname
  have He := hid he
  clear hbs hb he hname hT
  go_enter Tryz.func38, Tryz.ntmps38
  go_wp2_with fail
  refine (Hn.out _ H.out.1).mono ?_
  rintro e w' ⟨rfl, rfl⟩
  go_wp2_with fail
  go_ret
  rw [← He.out]
  exact ⟨rfl, H.out.2⟩
set_option maxHeartbeats 2000000 in
theorem ref_may (w : World) (x : Exp) :
    Calls Tryz.prog 20 #[.agg x.cells.toArray] w fun e w' => e = .returned (.bool (mayE x)) ∧ Below w.heap.size w w' := by
  show Calls Tryz.prog 20 #[.agg #[.string (mkS x.name), .int .i64 x.kind, .bool x.weak, .int .u64 (x.value : Int), .int .u64 (x.resolver : Int), .int .u64 (x.ordinal : Int), .string (mkS x.other)]] w _
  have hm : mayE x = (kindB x && textB x.name 1 && textB x.other 0) := rfl
  obtain ⟨X, hX⟩ : ∃ X, X = w.heap.size := ⟨_, rfl⟩
  obtain ⟨W0, hW0⟩ : ∃ W0, W0 = w.alloc (.cells #[.string (mkS x.name), .int .i64 x.kind, .bool x.weak, .int .u64 (x.value : Int), .int .u64 (x.resolver : Int), .int .u64 (x.ordinal : Int), .string (mkS x.other)] 25) := ⟨_, rfl⟩
  have hR : RowAt W0 X 25 #[.string (mkS x.name), .int .i64 x.kind, .bool x.weak, .int .u64 (x.value : Int), .int .u64 (x.resolver : Int), .int .u64 (x.ordinal : Int), .string (mkS x.other)] := by
    rw [hW0, hX]; exact heap_alloc_new w _
  have hB0 : Below w.heap.size w W0 := by rw [hW0]; exact (Below.refl _ _).alloc (Nat.le_refl _) _
  have hc1 := ref_text W0 x.name 1 (by omega)
  obtain ⟨b1, hb1⟩ : ∃ b1, b1 = textB x.name 1 := ⟨_, rfl⟩
  obtain ⟨b2, hb2⟩ : ∃ b2, b2 = textB x.other 0 := ⟨_, rfl⟩
  have hc2 := fun W => ref_text W x.other 0 (by omega)
  rw [← hb1] at hc1 hm
  rw [← hb2] at hm
  simp only [← hb2] at hc2
  have H0 := hid (And.intro hR (And.intro hB0 (And.intro hc1 (And.intro hc2 (And.intro hW0 hX)))))
  have Hm := hid hm
  clear hR hB0 hc1 hc2 hm hb1 hb2 hX hW0
  go_enter Tryz.func20, Tryz.ntmps20
  go_wp2_with fail
  rw [← H0.out.2.2.2.2.1, ← H0.out.2.2.2.2.2]
  refine H0.out.2.2.1.mono ?_
  rintro e w1 ⟨rfl, h1⟩
  have hR1 : RowAt w1 X _ _ := (h1.block X H0.out.1.lt).trans H0.out.1
  have y6 : w1.cell? ⟨X, 6, none⟩ = some (.string (mkS x.other)) := cell_of_row w1 X 6 _ _ _ hR1
  have H1 := hid (And.intro hR1 (H0.out.2.1.trans (h1.mono H0.out.2.1.size)))
  clear hR1 h1
  cases b1 with
  | false =>
    have hz : mayE x = false := by rw [Hm.out]; simp
    have Hz := hid hz
    clear hz
    go_wp2_with fail
    go_ret
    rw [Hz.out]
    exact ⟨rfl, H1.out.2⟩
  | true =>
    go_wp2_with fail
    refine (H0.out.2.2.2.1 _).mono ?_
    rintro e w2 ⟨rfl, h2⟩
    have hR2 : RowAt w2 X _ _ := (h2.block X H1.out.1.lt).trans H1.out.1
    have H2 := hid (And.intro hR2 (H1.out.2.trans (h2.mono H1.out.2.size)))
    clear hR2 h2 y6
    cases b2 with
    | false =>
      have hz : mayE x = false := by rw [Hm.out]; simp
      have Hz := hid hz
      clear hz
      go_wp2_with fail
      go_ret
      rw [Hz.out]
      exact ⟨rfl, H2.out.2⟩
    | true =>
      have y1 : w2.cell? ⟨X, 1, none⟩ = some (.int .i64 x.kind) := cell_of_row w2 X 1 _ _ _ H2.out.1
      have y3 : w2.cell? ⟨X, 3, none⟩ = some (.int .u64 (x.value : Int)) := cell_of_row w2 X 3 _ _ _ H2.out.1
      have y4 : w2.cell? ⟨X, 4, none⟩ = some (.int .u64 (x.resolver : Int)) := cell_of_row w2 X 4 _ _ _ H2.out.1
      have y5 : w2.cell? ⟨X, 5, none⟩ = some (.int .u64 (x.ordinal : Int)) := cell_of_row w2 X 5 _ _ _ H2.out.1
      have y6 : w2.cell? ⟨X, 6, none⟩ = some (.string (mkS x.other)) := cell_of_row w2 X 6 _ _ _ H2.out.1
      have hk : mayE x = kindB x := by rw [Hm.out]; simp
      by_cases k1 : x.kind = 1
      · by_cases qresolver : x.resolver = 0
        · by_cases qordinal : x.ordinal = 0
          · by_cases qother : x.other = []
            · have Hk := hid hk
              clear hk
              go_wp2_with fail
              all_goals first
                | (have hz : mayE x = true := by rw [Hk.out]; simp [kindB, *]
                   have Hz := hid hz
                   clear hz
                   go_ret
                   rw [Hz.out]
                   exact ⟨rfl, H2.out.2⟩)
                | (have hz : mayE x = false := by rw [Hk.out]; simp [kindB, *]
                   have Hz := hid hz
                   clear hz
                   go_ret
                   rw [Hz.out]
                   exact ⟨rfl, H2.out.2⟩)
            · have hq : x.other.isEmpty = false := by cases ho : x.other with
                | nil => exact absurd ho qother
                | cons => rfl
              have Hk := hid hk
              clear hk
              go_wp2_with fail
              all_goals first
                | (have hz : mayE x = true := by rw [Hk.out]; simp [kindB, *]
                   have Hz := hid hz
                   clear hz
                   go_ret
                   rw [Hz.out]
                   exact ⟨rfl, H2.out.2⟩)
                | (have hz : mayE x = false := by rw [Hk.out]; simp [kindB, *]
                   have Hz := hid hz
                   clear hz
                   go_ret
                   rw [Hz.out]
                   exact ⟨rfl, H2.out.2⟩)
          · have hq : ((x.ordinal : Int) == 0) = false := by rw [beq_eq_false_iff_ne]; omega
            have Hk := hid hk
            clear hk
            go_wp2_with fail
            all_goals first
              | (have hz : mayE x = true := by rw [Hk.out]; simp [kindB, *]
                 have Hz := hid hz
                 clear hz
                 go_ret
                 rw [Hz.out]
                 exact ⟨rfl, H2.out.2⟩)
              | (have hz : mayE x = false := by rw [Hk.out]; simp [kindB, *]
                 have Hz := hid hz
                 clear hz
                 go_ret
                 rw [Hz.out]
                 exact ⟨rfl, H2.out.2⟩)
        · have hq : ((x.resolver : Int) == 0) = false := by rw [beq_eq_false_iff_ne]; omega
          have Hk := hid hk
          clear hk
          go_wp2_with fail
          all_goals first
            | (have hz : mayE x = true := by rw [Hk.out]; simp [kindB, *]
               have Hz := hid hz
               clear hz
               go_ret
               rw [Hz.out]
               exact ⟨rfl, H2.out.2⟩)
            | (have hz : mayE x = false := by rw [Hk.out]; simp [kindB, *]
               have Hz := hid hz
               clear hz
               go_ret
               rw [Hz.out]
               exact ⟨rfl, H2.out.2⟩)
      by_cases k2 : x.kind = 2
      · by_cases qresolver : x.resolver = 0
        · by_cases qordinal : x.ordinal = 0
          · by_cases qother : x.other = []
            · have Hk := hid hk
              clear hk
              go_wp2_with fail
              all_goals first
                | (have hz : mayE x = true := by rw [Hk.out]; simp [kindB, *]
                   have Hz := hid hz
                   clear hz
                   go_ret
                   rw [Hz.out]
                   exact ⟨rfl, H2.out.2⟩)
                | (have hz : mayE x = false := by rw [Hk.out]; simp [kindB, *]
                   have Hz := hid hz
                   clear hz
                   go_ret
                   rw [Hz.out]
                   exact ⟨rfl, H2.out.2⟩)
            · have hq : x.other.isEmpty = false := by cases ho : x.other with
                | nil => exact absurd ho qother
                | cons => rfl
              have Hk := hid hk
              clear hk
              go_wp2_with fail
              all_goals first
                | (have hz : mayE x = true := by rw [Hk.out]; simp [kindB, *]
                   have Hz := hid hz
                   clear hz
                   go_ret
                   rw [Hz.out]
                   exact ⟨rfl, H2.out.2⟩)
                | (have hz : mayE x = false := by rw [Hk.out]; simp [kindB, *]
                   have Hz := hid hz
                   clear hz
                   go_ret
                   rw [Hz.out]
                   exact ⟨rfl, H2.out.2⟩)
          · have hq : ((x.ordinal : Int) == 0) = false := by rw [beq_eq_false_iff_ne]; omega
            have Hk := hid hk
            clear hk
            go_wp2_with fail
            all_goals first
              | (have hz : mayE x = true := by rw [Hk.out]; simp [kindB, *]
                 have Hz := hid hz
                 clear hz
                 go_ret
                 rw [Hz.out]
                 exact ⟨rfl, H2.out.2⟩)
              | (have hz : mayE x = false := by rw [Hk.out]; simp [kindB, *]
                 have Hz := hid hz
                 clear hz
                 go_ret
                 rw [Hz.out]
                 exact ⟨rfl, H2.out.2⟩)
        · have hq : ((x.resolver : Int) == 0) = false := by rw [beq_eq_false_iff_ne]; omega
          have Hk := hid hk
          clear hk
          go_wp2_with fail
          all_goals first
            | (have hz : mayE x = true := by rw [Hk.out]; simp [kindB, *]
               have Hz := hid hz
               clear hz
               go_ret
               rw [Hz.out]
               exact ⟨rfl, H2.out.2⟩)
            | (have hz : mayE x = false := by rw [Hk.out]; simp [kindB, *]
               have Hz := hid hz
               clear hz
               go_ret
               rw [Hz.out]
               exact ⟨rfl, H2.out.2⟩)
      by_cases k3 : x.kind = 3
      · by_cases qvalue : x.value = 0
        · by_cases qresolver : x.resolver = 0
          · have Hk := hid hk
            clear hk
            go_wp2_with fail
            all_goals first
              | (have hz : mayE x = true := by rw [Hk.out]; simp [kindB, *]
                 have Hz := hid hz
                 clear hz
                 go_ret
                 rw [Hz.out]
                 exact ⟨rfl, H2.out.2⟩)
              | (have hz : mayE x = false := by rw [Hk.out]; simp [kindB, *]
                 have Hz := hid hz
                 clear hz
                 go_ret
                 rw [Hz.out]
                 exact ⟨rfl, H2.out.2⟩)
          · have hq : ((x.resolver : Int) == 0) = false := by rw [beq_eq_false_iff_ne]; omega
            have Hk := hid hk
            clear hk
            go_wp2_with fail
            all_goals first
              | (have hz : mayE x = true := by rw [Hk.out]; simp [kindB, *]
                 have Hz := hid hz
                 clear hz
                 go_ret
                 rw [Hz.out]
                 exact ⟨rfl, H2.out.2⟩)
              | (have hz : mayE x = false := by rw [Hk.out]; simp [kindB, *]
                 have Hz := hid hz
                 clear hz
                 go_ret
                 rw [Hz.out]
                 exact ⟨rfl, H2.out.2⟩)
        · have hq : ((x.value : Int) == 0) = false := by rw [beq_eq_false_iff_ne]; omega
          have Hk := hid hk
          clear hk
          go_wp2_with fail
          all_goals first
            | (have hz : mayE x = true := by rw [Hk.out]; simp [kindB, *]
               have Hz := hid hz
               clear hz
               go_ret
               rw [Hz.out]
               exact ⟨rfl, H2.out.2⟩)
            | (have hz : mayE x = false := by rw [Hk.out]; simp [kindB, *]
               have Hz := hid hz
               clear hz
               go_ret
               rw [Hz.out]
               exact ⟨rfl, H2.out.2⟩)
      by_cases k4 : x.kind = 4
      · by_cases qordinal : x.ordinal = 0
        · by_cases qother : x.other = []
          · have Hk := hid hk
            clear hk
            go_wp2_with fail
            all_goals first
              | (have hz : mayE x = true := by rw [Hk.out]; simp [kindB, *]
                 have Hz := hid hz
                 clear hz
                 go_ret
                 rw [Hz.out]
                 exact ⟨rfl, H2.out.2⟩)
              | (have hz : mayE x = false := by rw [Hk.out]; simp [kindB, *]
                 have Hz := hid hz
                 clear hz
                 go_ret
                 rw [Hz.out]
                 exact ⟨rfl, H2.out.2⟩)
          · have hq : x.other.isEmpty = false := by cases ho : x.other with
              | nil => exact absurd ho qother
              | cons => rfl
            have Hk := hid hk
            clear hk
            go_wp2_with fail
            all_goals first
              | (have hz : mayE x = true := by rw [Hk.out]; simp [kindB, *]
                 have Hz := hid hz
                 clear hz
                 go_ret
                 rw [Hz.out]
                 exact ⟨rfl, H2.out.2⟩)
              | (have hz : mayE x = false := by rw [Hk.out]; simp [kindB, *]
                 have Hz := hid hz
                 clear hz
                 go_ret
                 rw [Hz.out]
                 exact ⟨rfl, H2.out.2⟩)
        · have hq : ((x.ordinal : Int) == 0) = false := by rw [beq_eq_false_iff_ne]; omega
          have Hk := hid hk
          clear hk
          go_wp2_with fail
          all_goals first
            | (have hz : mayE x = true := by rw [Hk.out]; simp [kindB, *]
               have Hz := hid hz
               clear hz
               go_ret
               rw [Hz.out]
               exact ⟨rfl, H2.out.2⟩)
            | (have hz : mayE x = false := by rw [Hk.out]; simp [kindB, *]
               have Hz := hid hz
               clear hz
               go_ret
               rw [Hz.out]
               exact ⟨rfl, H2.out.2⟩)
      have Hk := hid hk
      clear hk
      go_wp2_with fail
      all_goals first
        | (have hz : mayE x = true := by rw [Hk.out]; simp [kindB, *]
           have Hz := hid hz
           clear hz
           go_ret
           rw [Hz.out]
           exact ⟨rfl, H2.out.2⟩)
        | (have hz : mayE x = false := by rw [Hk.out]; simp [kindB, *]
           have Hz := hid hz
           clear hz
           go_ret
           rw [Hz.out]
           exact ⟨rfl, H2.out.2⟩)
end Go.Proofs.YthhjdkcnkdffcaaGreat
