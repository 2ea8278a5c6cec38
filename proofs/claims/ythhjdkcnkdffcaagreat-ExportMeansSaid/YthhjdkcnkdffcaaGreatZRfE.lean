/- What the reference says of a name: the walk. -/
import Derived.Test.YthhjdkcnkdffcaaGreatZTrieR
import Derived.Test.YthhjdkcnkdffcaaGreatZFindA
import Derived.Deep.DeepCutAuto
import Derived.Deep.CutBlock
import Derived.Test.YthhjdkcnkdffcaaGreatZCurB
namespace Go.Proofs.YthhjdkcnkdffcaaGreat
set_option linter.unusedSimpArgs false
set_option linter.unusedVariables false
open Go.RowKit
/-- What stands while it is said: the result's block X, the cursor's c, the export's S. -/
structure RS (w W : World) (X c S : Nat) (p : Option Addr) (cap : Nat) (l : List UInt8) (s : Cu) (vs : Array Value) : Prop where
  res : RowAt W X 25 Exp.zero.cells.toArray
  cur : RAt W c p cap l s
  say : RowAt W S 25 vs
  low : Below w.heap.size w W
  ord : w.heap.size ≤ X ∧ X < c ∧ c < S
section
variable {w W W' : World} {X c S : Nat} {p : Option Addr} {cap : Nat} {l : List UInt8} {s s' : Cu} {vs : Array Value}
theorem RS.call (h : RS w W X c S p cap l s vs) (hc : RAt W' c p cap l s') (hg : W.grownBy W' (some c)) : RS w W' X c S p cap l s' vs := by
  have ho := h.ord
  exact ⟨h.res.grown hg (fun e => by have := Option.some.inj e; omega), hc, h.say.grown hg (fun e => by have := Option.some.inj e; omega), h.low.grown hg h.low.size (fun j e => by have := Option.some.inj e; omega), ho⟩
theorem RAt.setFar (h : RAt W c p cap l s) {K i : Nat} (hK : c < K) (u : Value) : RAt (W.setCell ⟨K, i, none⟩ u) c p cap l s :=
  ⟨h.bs.of_block (fun j hj hlt => heap_setCell_other W _ j u (by simp; have := h.far j hj; omega)), h.far, h.le, h.row.other (by omega) u⟩
theorem RS.set (h : RS w W X c S p cap l s vs) (i : Nat) (u : Value) : RS w (W.setCell ⟨S, i, none⟩ u) X c S p cap l s (vs.setIfInBounds i u) := by
  have ho := h.ord
  refine ⟨h.res.other (by omega) u, h.cur.setFar ho.2.2 u, ?_, h.low.setCell (by show w.heap.size ≤ S; omega) u, ho⟩
  unfold RowAt; rw [heap_setCell_same _ _ _ _ _ _ h.say]
end
theorem numR_lt (l : List UInt8) (s : Cu) : (numR l s).1 < 2 ^ 64 := by
  unfold numR ulebR
  cases h : ulebM (l.drop s.at_) with
  | none => exact (by decide : (0 : Nat) < 2 ^ 64)
  | some q => exact (ulebM_lt h).1
/-- A block that bytes are read from is there. -/
theorem inBlk_lt {w : World} {v : Value} {l : List UInt8} (h : BS w v l) {j : Nat} (hj : inBlk v j) : j < w.heap.size := by
  obtain ⟨p, cap, rfl, h1, h2, h3⟩ := h
  have hpos : 0 < l.length := inBlk_pos (p := p) (c := cap) hj
  obtain ⟨b, off, rfl, hc⟩ := h3 (by intro e; rw [e] at hpos; exact absurd hpos (by simp))
  have h0 := hc 0 _ (List.getElem?_eq_getElem hpos)
  have := World.block_lt_of_cell? w _ h0
  have e : b = j := hj.2
  simp at this; omega
/-- An export written into a block, cell by cell. -/
def putE (W : World) (X : Nat) (x : Exp) : World := (((((((W.setCell ⟨X, 0, none⟩ (.string (mkS x.name))).setCell ⟨X, 1, none⟩ (.int .i64 x.kind)).setCell ⟨X, 2, none⟩ (.bool x.weak)).setCell ⟨X, 3, none⟩ (.int .u64 (x.value : Int))).setCell ⟨X, 4, none⟩ (.int .u64 (x.resolver : Int))).setCell ⟨X, 5, none⟩ (.int .u64 (x.ordinal : Int))).setCell ⟨X, 6, none⟩ (.string (mkS x.other)))
theorem putE_row {W : World} {X : Nat} {t : TypeId} {y : Exp} (x : Exp) (h : RowAt W X t y.cells.toArray) : RowAt (putE W X x) X t x.cells.toArray := by
  have step : ∀ {V : World} {vs : Array Value} (i : Nat) (u : Value), RowAt V X t vs → RowAt (V.setCell ⟨X, i, none⟩ u) X t (vs.setIfInBounds i u) := fun {V vs} i u hb => by
    unfold RowAt; rw [heap_setCell_same _ _ _ _ _ _ hb]
  unfold putE
  have h0 : RowAt _ X t #[.string (mkS x.name), .int .i64 y.kind, .bool y.weak, .int .u64 (y.value : Int), .int .u64 (y.resolver : Int), .int .u64 (y.ordinal : Int), .string (mkS y.other)] := step 0 (.string (mkS x.name)) h
  have h1 : RowAt _ X t #[.string (mkS x.name), .int .i64 x.kind, .bool y.weak, .int .u64 (y.value : Int), .int .u64 (y.resolver : Int), .int .u64 (y.ordinal : Int), .string (mkS y.other)] := step 1 (.int .i64 x.kind) h0
  have h2 : RowAt _ X t #[.string (mkS x.name), .int .i64 x.kind, .bool x.weak, .int .u64 (y.value : Int), .int .u64 (y.resolver : Int), .int .u64 (y.ordinal : Int), .string (mkS y.other)] := step 2 (.bool x.weak) h1
  have h3 : RowAt _ X t #[.string (mkS x.name), .int .i64 x.kind, .bool x.weak, .int .u64 (x.value : Int), .int .u64 (y.resolver : Int), .int .u64 (y.ordinal : Int), .string (mkS y.other)] := step 3 (.int .u64 (x.value : Int)) h2
  have h4 : RowAt _ X t #[.string (mkS x.name), .int .i64 x.kind, .bool x.weak, .int .u64 (x.value : Int), .int .u64 (x.resolver : Int), .int .u64 (y.ordinal : Int), .string (mkS y.other)] := step 4 (.int .u64 (x.resolver : Int)) h3
  have h5 : RowAt _ X t #[.string (mkS x.name), .int .i64 x.kind, .bool x.weak, .int .u64 (x.value : Int), .int .u64 (x.resolver : Int), .int .u64 (x.ordinal : Int), .string (mkS y.other)] := step 5 (.int .u64 (x.ordinal : Int)) h4
  exact step 6 (.string (mkS x.other)) h5
theorem putE_low {w W : World} {X : Nat} (x : Exp) (h : Below w.heap.size w W) (hX : w.heap.size ≤ X) : Below w.heap.size w (putE W X x) :=
  ((((((h.setCell (p := ⟨X, 0, none⟩) hX (.string (mkS x.name))).setCell (p := ⟨X, 1, none⟩) hX (.int .i64 x.kind)).setCell (p := ⟨X, 2, none⟩) hX (.bool x.weak)).setCell (p := ⟨X, 3, none⟩) hX (.int .u64 (x.value : Int))).setCell (p := ⟨X, 4, none⟩) hX (.int .u64 (x.resolver : Int))).setCell (p := ⟨X, 5, none⟩) hX (.int .u64 (x.ordinal : Int))).setCell (p := ⟨X, 6, none⟩) hX (.string (mkS x.other))
/-- What a call of says brings about. -/
def SaidEnd (w : World) (l : List UInt8) (e : Ending) (w' : World) : Prop :=
  ∃ x ok, e = .returned (.tuple #[.agg x.cells.toArray, .bool ok]) ∧ Below w.heap.size w w' ∧ ok = ((saysRf l).2.1 && (saysRf l).2.2.at_ == l.length) ∧ (ok = true → x = (saysRf l).1)
/-- What stands behind the switch. -/
def SaidRf (w W : World) (X S : Nat) (p : Option Addr) (cap : Nat) (l : List UInt8) (fl : Nat) (s1 : Cu) : Prop :=
  ∃ x s2, RS w W X (X + 1) S p cap l s2 x.cells.toArray ∧ saysRf1 l fl s1 = (x, !s2.bad, s2)
theorem saysRf1_0 {l : List UInt8} {fl : Nat} {s : Cu} {wk : Bool} (hw : wk = (fl / 4 % 2 == 1)) (h : bareF fl = 0) : saysRf1 l fl s = (⟨[], 1, wk, (numR l s).1, 0, 0, []⟩, !(numR l s).2.bad, (numR l s).2) := by
  unfold saysRf1; rw [if_neg (by omega), if_pos h, hw]
theorem saysRf1_2 {l : List UInt8} {fl : Nat} {s : Cu} {wk : Bool} (hw : wk = (fl / 4 % 2 == 1)) (h : bareF fl = 2) : saysRf1 l fl s = (⟨[], 2, wk, (numR l s).1, 0, 0, []⟩, !(numR l s).2.bad, (numR l s).2) := by
  unfold saysRf1; rw [if_neg (by omega), if_neg (by omega), if_pos h, hw]
theorem saysRf1_8 {l : List UInt8} {fl : Nat} {s : Cu} {wk : Bool} (hw : wk = (fl / 4 % 2 == 1)) (h : bareF fl = 8) : saysRf1 l fl s = (⟨[], 3, wk, 0, 0, (numR l s).1, (textRf l (numR l s).2).1⟩, !(textRf l (numR l s).2).2.bad, (textRf l (numR l s).2).2) := by
  unfold saysRf1; rw [if_pos h, hw]
theorem saysRf1_16 {l : List UInt8} {fl : Nat} {s : Cu} {wk : Bool} (hw : wk = (fl / 4 % 2 == 1)) (h : bareF fl = 16) : saysRf1 l fl s = (⟨[], 4, wk, (numR l s).1, (numR l (numR l s).2).1, 0, []⟩, !(numR l (numR l s).2).2.bad, (numR l (numR l s).2).2) := by
  unfold saysRf1; rw [if_neg (by omega), if_neg (by omega), if_neg (by omega), if_pos h, hw]
theorem saysRf1_no {l : List UInt8} {fl : Nat} {s : Cu} (h8 : bareF fl ≠ 8) (h0 : bareF fl ≠ 0) (h2 : bareF fl ≠ 2) (h16 : bareF fl ≠ 16) : (saysRf1 l fl s).2.1 = false := by
  unfold saysRf1; rw [if_neg h8, if_neg h0, if_neg h2, if_neg h16]
set_option maxHeartbeats 1000000 in
set_option maxRecDepth 4000 in
theorem ref_says (w : World) (p : Option Addr) (n cap : Nat) (l : List UInt8) (h : BS w (.slice p n cap) l) :
    Calls Tryz.prog 71 #[.slice p n cap] w (SaidEnd w l) := by
  obtain rfl := h.len
  have hcp := h.cap
  have H := hid h
  clear h
  go_enter Tryz.func71, Tryz.ntmps71
  go_wp2_with fail
  obtain ⟨w1, hw1⟩ : ∃ w1, w1 = ((w.alloc (.cells Exp.zero.cells.toArray 25)).alloc (.cells #[.slice p l.length cap, .int .i64 0, .bool false] 150)) := ⟨_, rfl⟩
  have hb0 : Below w.heap.size w (w.alloc (.cells Exp.zero.cells.toArray 25)) := (Below.refl _ _).alloc (Nat.le_refl _) _
  have hs0 : (w.alloc (.cells Exp.zero.cells.toArray 25)).heap.size = w.heap.size + 1 := by simp
  have hb1 : Below (w.heap.size + 1) (w.alloc (.cells Exp.zero.cells.toArray 25)) w1 := by rw [hw1]; exact (Below.refl _ _).alloc (by omega) _
  have hb : Below w.heap.size w w1 := hb0.trans (hb1.mono (by omega))
  have hX : RowAt w1 w.heap.size 25 Exp.zero.cells.toArray := (hb1.block w.heap.size (by omega)).trans (heap_alloc_new w _)
  have hC : RAt w1 (w.heap.size + 1) p cap l ⟨0, false⟩ := by
    refine ⟨H.out.below hb, fun j hj => ?_, Nat.zero_le _, ?_⟩
    · have := inBlk_lt H.out hj; omega
    · rw [hw1, ← hs0]; exact heap_alloc_new _ _
  rw [show (w.alloc (.cells #[.string ⟨#[]⟩, .int .i64 0, .bool false, .int .u64 0, .int .u64 0, .int .u64 0, .string ⟨#[]⟩] 25)).alloc (.cells #[.slice p l.length cap, .int .i64 0, .bool false] 150) = w1 from hw1.symm]
  refine (ref_number w1 _ p cap l ⟨0, false⟩ hC).mono ?_
  rintro e w2 ⟨rfl, hC2, hg2⟩
  have hX2 := hX.grown hg2 (fun e => by have := Option.some.inj e; omega)
  have hb2 : Below w.heap.size w w2 := hb.grown hg2 hb.size (fun j e => by have := Option.some.inj e; omega)
  have H1 := hid (And.intro hX2 (And.intro hC2 hb2))
  clear hw1 hb0 hs0 hb1 hb hX hC hg2 hX2 hC2 hb2
  obtain ⟨X, hXe⟩ : ∃ X, X = w.heap.size := ⟨_, rfl⟩
  rw [← hXe] at H1 ⊢
  obtain ⟨fl, hfl⟩ : ∃ fl, fl = (numR l ⟨0, false⟩).1 := ⟨_, rfl⟩
  rw [← hfl]
  have Hfl := hid (And.intro hXe hfl)
  clear hXe
  have hfl64 : fl < 2 ^ 64 := by rw [hfl]; exact numR_lt l _
  clear hfl
  have hq : IntKind.u64.wrap ((fl : Int) / 4) = ((fl / 4 : Nat) : Int) := by rw [show (fl : Int) / 4 = ((fl / 4 : Nat) : Int) by omega]; exact IntWalk.u64_in _ (by omega)
  have hr : Int.tmod ((fl / 4 : Nat) : Int) 2 = ((fl / 4 % 2 : Nat) : Int) := rfl
  obtain ⟨wk, hwk⟩ : ∃ wk, wk = (fl / 4 % 2 == 1) := ⟨_, rfl⟩
  have hb : (((fl / 4 % 2 : Nat) : Int) == 1) = wk := by rw [hwk, Bool.eq_iff_iff, beq_iff_eq, beq_iff_eq]; omega
  have hb2 : ((fl : Int) / 4 % 2 == 1) = wk := hb
  obtain ⟨F, hF⟩ : ∃ F, F = bareF fl := ⟨_, rfl⟩
  have HF := hid (And.intro hF hwk)
  have Hl := hid hfl64
  clear hF hwk hfl64
  go_upto_if 18 with fail
  have hba : Below w2.heap.size w2 (w2.alloc (.cells #[.string ⟨#[]⟩, .int .i64 0, .bool wk, .int .u64 0, .int .u64 0, .int .u64 0, .string ⟨#[]⟩] 25)) := (Below.refl _ _).alloc (Nat.le_refl _) _
  have hS : RS w (w2.alloc (.cells #[.string ⟨#[]⟩, .int .i64 0, .bool wk, .int .u64 0, .int .u64 0, .int .u64 0, .string ⟨#[]⟩] 25)) X (X + 1) w2.heap.size p cap l (numR l ⟨0, false⟩).2 #[.string ⟨#[]⟩, .int .i64 0, .bool wk, .int .u64 0, .int .u64 0, .int .u64 0, .string ⟨#[]⟩] := by
    have hc := H1.out.2.1
    have hlt := hc.row.lt
    have hx := Hfl.out.1
    have hlow : Below w.heap.size w w2 := by rw [← hx]; exact H1.out.2.2
    exact ⟨(hba.block _ H1.out.1.lt).trans H1.out.1, ⟨hc.bs.below hba, hc.far, hc.le, (hba.block _ hlt).trans hc.row⟩, heap_alloc_new w2 _, hlow.trans (hba.mono hlow.size), by omega, by omega, hlt⟩
  obtain ⟨S, hSe⟩ : ∃ S, S = w2.heap.size := ⟨_, rfl⟩
  obtain ⟨W, hW⟩ : ∃ W, W = w2.alloc (.cells #[.string ⟨#[]⟩, .int .i64 0, .bool wk, .int .u64 0, .int .u64 0, .int .u64 0, .string ⟨#[]⟩] 25) := ⟨_, rfl⟩
  rw [← hSe, ← hW] at hS
  rw [← hSe, ← hW]
  clear hSe hW hba H1 hq hr hb hb2
  obtain ⟨s1, hs1⟩ : ∃ s1, s1 = (numR l ⟨0, false⟩).2 := ⟨_, rfl⟩
  rw [← hs1] at hS
  have Hs1 := hid (And.intro hs1 hS)
  clear hs1 hS
  go_cut [5] (fun v wx => v = .int .u64 (F : Int) ∧ wx = W)
  case first =>
    cases hk : wk with
    | true =>
      have h4 : fl / 4 % 2 = 1 := by have := HF.out.2; rw [hk] at this; simpa using this.symm
      have hF4 : F + 4 = fl := by rw [HF.out.1]; unfold bareF; rw [if_pos h4]; omega
      have hl := Hl.out
      have hsub : IntKind.u64.wrap ((fl : Int) - 4) = (F : Int) := by rw [show (fl : Int) - 4 = ((F : Nat) : Int) by omega]; exact IntWalk.u64_in _ (by omega)
      clear h4 hF4 hl hk
      go_wp2_with fail
      go_meet
      exact ⟨rfl, rfl⟩
    | false =>
      have h4 : ¬ fl / 4 % 2 = 1 := by have := HF.out.2; rw [hk] at this; simpa using this.symm
      have hF4 : fl = F := by rw [HF.out.1]; unfold bareF; rw [if_neg h4]
      have Hq := hid hF4
      clear h4 hF4 hk
      go_wp2_with fail
      go_meet
      exact ⟨by rw [Hq.out], rfl⟩
  case rest =>
    obtain ⟨rfl, rfl⟩ := hcut
    go_upto_block 0 with fail
    go_cut [] (fun wx => SaidRf w wx X S p cap l fl s1)
    case first =>
      have hS := Hs1.out.2
      have s1c : wc.cell? ⟨S, 1, none⟩ = some (.int .i64 0) := cell_of_row wc S 1 _ _ _ hS.say
      have s1f : wc.frozen? ⟨S, 1, none⟩ = false := frozen_of_row wc S 1 _ _ hS.say
      clear hS
      by_cases k0 : F = 0
      · have b0 : ((F : Int) == 0) = true := by rw [beq_iff_eq]; omega
        have Hk := hid k0
        clear k0
        go_upto_region 10 with fail
        obtain ⟨w3, hW3⟩ : ∃ w3, w3 = wc.setCell ⟨S, 1, none⟩ (.int .i64 1) := ⟨_, rfl⟩
        have h3 := Hs1.out.2.set 1 (.int .i64 1)
        rw [← hW3] at h3 ⊢
        have H3 := hid h3
        clear hW3 h3 s1c s1f
        go_wp2_with fail
        refine (ref_number w3 (X + 1) p cap l s1 H3.out.cur).mono ?_
        rintro e w4 ⟨rfl, hc4, hg4⟩
        have h4 := H3.out.call hc4 hg4
        have s3c : w4.cell? ⟨S, 3, none⟩ = some (.int .u64 0) := cell_of_row w4 S 3 _ _ _ h4.say
        have s3f : w4.frozen? ⟨S, 3, none⟩ = false := frozen_of_row w4 S 3 _ _ h4.say
        have H4 := hid h4
        clear hc4 hg4 h4
        go_wp2_with fail
        go_meet
        have h := H4.out.set 3 (.int .u64 ((numR l s1).1 : Int))
        exact ⟨_, _, h, saysRf1_0 HF.out.2 (by rw [← HF.out.1]; exact Hk.out)⟩
      have b0 : ((F : Int) == 0) = false := by rw [beq_eq_false_iff_ne]; omega
      by_cases k2 : F = 2
      · have b2 : ((F : Int) == 2) = true := by rw [beq_iff_eq]; omega
        have Hk := hid k2
        clear k0 k2
        go_upto_region 13 with fail
        obtain ⟨w3, hW3⟩ : ∃ w3, w3 = wc.setCell ⟨S, 1, none⟩ (.int .i64 2) := ⟨_, rfl⟩
        have h3 := Hs1.out.2.set 1 (.int .i64 2)
        rw [← hW3] at h3 ⊢
        have H3 := hid h3
        clear hW3 h3 s1c s1f
        go_wp2_with fail
        refine (ref_number w3 (X + 1) p cap l s1 H3.out.cur).mono ?_
        rintro e w4 ⟨rfl, hc4, hg4⟩
        have h4 := H3.out.call hc4 hg4
        have s3c : w4.cell? ⟨S, 3, none⟩ = some (.int .u64 0) := cell_of_row w4 S 3 _ _ _ h4.say
        have s3f : w4.frozen? ⟨S, 3, none⟩ = false := frozen_of_row w4 S 3 _ _ h4.say
        have H4 := hid h4
        clear hc4 hg4 h4
        go_wp2_with fail
        go_meet
        have h := H4.out.set 3 (.int .u64 ((numR l s1).1 : Int))
        exact ⟨_, _, h, saysRf1_2 HF.out.2 (by rw [← HF.out.1]; exact Hk.out)⟩
      have b2 : ((F : Int) == 2) = false := by rw [beq_eq_false_iff_ne]; omega
      by_cases k8 : F = 8
      · have b8 : ((F : Int) == 8) = true := by rw [beq_iff_eq]; omega
        have Hk := hid k8
        clear k0 k2 k8
        go_upto_region 16 with fail
        obtain ⟨w3, hW3⟩ : ∃ w3, w3 = wc.setCell ⟨S, 1, none⟩ (.int .i64 3) := ⟨_, rfl⟩
        have h3 := Hs1.out.2.set 1 (.int .i64 3)
        rw [← hW3] at h3 ⊢
        have H3 := hid h3
        clear hW3 h3 s1c s1f
        go_wp2_with fail
        refine (ref_number w3 (X + 1) p cap l s1 H3.out.cur).mono ?_
        rintro e w4 ⟨rfl, hc4, hg4⟩
        have h4 := H3.out.call hc4 hg4
        have s5c : w4.cell? ⟨S, 5, none⟩ = some (.int .u64 0) := cell_of_row w4 S 5 _ _ _ h4.say
        have s5f : w4.frozen? ⟨S, 5, none⟩ = false := frozen_of_row w4 S 5 _ _ h4.say
        have H4 := hid h4
        clear hc4 hg4 h4
        go_upto_region 17 with fail
        have h5 := H4.out.set 5 (.int .u64 ((numR l s1).1 : Int))
        obtain ⟨W5, hW5⟩ : ∃ W5, W5 = w4.setCell ⟨S, 5, none⟩ (.int .u64 ((numR l s1).1 : Int)) := ⟨_, rfl⟩
        rw [← hW5] at h5 ⊢
        have H5 := hid h5
        clear hW5 h5 s5c s5f
        go_wp2_with fail
        refine (ref_text_c W5 (X + 1) p cap l _ H5.out.cur).mono ?_
        rintro e w6 ⟨rfl, hc6, hg6⟩
        have h6 := H5.out.call hc6 hg6
        have s6c : w6.cell? ⟨S, 6, none⟩ = some (.string ⟨#[]⟩) := cell_of_row w6 S 6 _ _ _ h6.say
        have s6f : w6.frozen? ⟨S, 6, none⟩ = false := frozen_of_row w6 S 6 _ _ h6.say
        have H6 := hid h6
        clear hc6 hg6 h6
        go_wp2_with fail
        go_meet
        have h := H6.out.set 6 (.string (mkS (textRf l (numR l s1).2).1))
        exact ⟨_, _, h, saysRf1_8 HF.out.2 (by rw [← HF.out.1]; exact Hk.out)⟩
      have b8 : ((F : Int) == 8) = false := by rw [beq_eq_false_iff_ne]; omega
      by_cases k16 : F = 16
      · have b16 : ((F : Int) == 16) = true := by rw [beq_iff_eq]; omega
        have Hk := hid k16
        clear k0 k2 k8 k16
        go_upto_region 20 with fail
        obtain ⟨w3, hW3⟩ : ∃ w3, w3 = wc.setCell ⟨S, 1, none⟩ (.int .i64 4) := ⟨_, rfl⟩
        have h3 := Hs1.out.2.set 1 (.int .i64 4)
        rw [← hW3] at h3 ⊢
        have H3 := hid h3
        clear hW3 h3 s1c s1f
        go_wp2_with fail
        refine (ref_number w3 (X + 1) p cap l s1 H3.out.cur).mono ?_
        rintro e w4 ⟨rfl, hc4, hg4⟩
        have h4 := H3.out.call hc4 hg4
        have s3c : w4.cell? ⟨S, 3, none⟩ = some (.int .u64 0) := cell_of_row w4 S 3 _ _ _ h4.say
        have s3f : w4.frozen? ⟨S, 3, none⟩ = false := frozen_of_row w4 S 3 _ _ h4.say
        have H4 := hid h4
        clear hc4 hg4 h4
        go_upto_region 21 with fail
        have h5 := H4.out.set 3 (.int .u64 ((numR l s1).1 : Int))
        obtain ⟨W5, hW5⟩ : ∃ W5, W5 = w4.setCell ⟨S, 3, none⟩ (.int .u64 ((numR l s1).1 : Int)) := ⟨_, rfl⟩
        rw [← hW5] at h5 ⊢
        have H5 := hid h5
        clear hW5 h5 s3c s3f
        go_wp2_with fail
        refine (ref_number W5 (X + 1) p cap l _ H5.out.cur).mono ?_
        rintro e w6 ⟨rfl, hc6, hg6⟩
        have h6 := H5.out.call hc6 hg6
        have s6c : w6.cell? ⟨S, 4, none⟩ = some (.int .u64 0) := cell_of_row w6 S 4 _ _ _ h6.say
        have s6f : w6.frozen? ⟨S, 4, none⟩ = false := frozen_of_row w6 S 4 _ _ h6.say
        have H6 := hid h6
        clear hc6 hg6 h6
        go_wp2_with fail
        go_meet
        have h := H6.out.set 4 (.int .u64 ((numR l (numR l s1).2).1 : Int))
        exact ⟨_, _, h, saysRf1_16 HF.out.2 (by rw [← HF.out.1]; exact Hk.out)⟩
      have b16 : ((F : Int) == 16) = false := by rw [beq_eq_false_iff_ne]; omega
      have hno : (saysRf l).2.1 = false := by
        unfold saysRf
        rw [← Hfl.out.2, ← Hs1.out.1]
        have hf := HF.out.1
        exact saysRf1_no (by rw [← hf]; exact k8) (by rw [← hf]; exact k0) (by rw [← hf]; exact k2) (by rw [← hf]; exact k16)
      have hS := Hs1.out.2
      have x0 : wc.cell? ⟨X, 0, none⟩ = some (.string ⟨#[]⟩) := cell_of_row wc X 0 _ _ _ hS.res
      have x1 : wc.cell? ⟨X, 1, none⟩ = some (.int .i64 0) := cell_of_row wc X 1 _ _ _ hS.res
      have x2 : wc.cell? ⟨X, 2, none⟩ = some (.bool false) := cell_of_row wc X 2 _ _ _ hS.res
      have x3 : wc.cell? ⟨X, 3, none⟩ = some (.int .u64 0) := cell_of_row wc X 3 _ _ _ hS.res
      have x4 : wc.cell? ⟨X, 4, none⟩ = some (.int .u64 0) := cell_of_row wc X 4 _ _ _ hS.res
      have x5 : wc.cell? ⟨X, 5, none⟩ = some (.int .u64 0) := cell_of_row wc X 5 _ _ _ hS.res
      have x6 : wc.cell? ⟨X, 6, none⟩ = some (.string ⟨#[]⟩) := cell_of_row wc X 6 _ _ _ hS.res
      have xf : ∀ i, wc.frozen? ⟨X, i, none⟩ = false := fun i => frozen_of_row wc X i _ _ hS.res
      have z0 : wc.setCell ⟨X, 0, none⟩ (.string ⟨#[]⟩) = wc := setCell_self hS.res 0 _ rfl
      have z1 : wc.setCell ⟨X, 1, none⟩ (.int .i64 0) = wc := setCell_self hS.res 1 _ rfl
      have z2 : wc.setCell ⟨X, 2, none⟩ (.bool false) = wc := setCell_self hS.res 2 _ rfl
      have z3 : wc.setCell ⟨X, 3, none⟩ (.int .u64 0) = wc := setCell_self hS.res 3 _ rfl
      have z4 : wc.setCell ⟨X, 4, none⟩ (.int .u64 0) = wc := setCell_self hS.res 4 _ rfl
      have z5 : wc.setCell ⟨X, 5, none⟩ (.int .u64 0) = wc := setCell_self hS.res 5 _ rfl
      have z6 : wc.setCell ⟨X, 6, none⟩ (.string ⟨#[]⟩) = wc := setCell_self hS.res 6 _ rfl
      have Hno := hid hno
      clear hno hS s1c s1f k0 k2 k8 k16
      go_wp2_with fail
      refine bodyPost_ret (v := .tuple #[.agg Exp.zero.cells.toArray, .bool false]) (by simp [results, Tryz.results71, go_sem, Exp.cells, Exp.zero, mkS, x0, x1, x2, x3, x4, x5, x6]) rfl ?_
      exact ⟨Exp.zero, false, rfl, Hs1.out.2.low, by rw [Hno.out]; rfl, fun h => by cases h⟩
    case rest =>
      obtain ⟨x, s2, hS, heq⟩ := hcut
      go_upto_region 22 with fail
      have hR : saysRf l = (x, !s2.bad, s2) := by
        unfold saysRf
        rw [← Hfl.out.2, ← Hs1.out.1]; exact heq
      obtain ⟨k2, bad2⟩ := s2
      have q0 : wc.cell? ⟨S, 0, none⟩ = some (.string (mkS x.name)) := cell_of_row wc S 0 _ _ _ hS.say
      have q1 : wc.cell? ⟨S, 1, none⟩ = some (.int .i64 x.kind) := cell_of_row wc S 1 _ _ _ hS.say
      have q2 : wc.cell? ⟨S, 2, none⟩ = some (.bool x.weak) := cell_of_row wc S 2 _ _ _ hS.say
      have q3 : wc.cell? ⟨S, 3, none⟩ = some (.int .u64 (x.value : Int)) := cell_of_row wc S 3 _ _ _ hS.say
      have q4 : wc.cell? ⟨S, 4, none⟩ = some (.int .u64 (x.resolver : Int)) := cell_of_row wc S 4 _ _ _ hS.say
      have q5 : wc.cell? ⟨S, 5, none⟩ = some (.int .u64 (x.ordinal : Int)) := cell_of_row wc S 5 _ _ _ hS.say
      have q6 : wc.cell? ⟨S, 6, none⟩ = some (.string (mkS x.other)) := cell_of_row wc S 6 _ _ _ hS.say
      have x0 : wc.cell? ⟨X, 0, none⟩ = some (.string ⟨#[]⟩) := cell_of_row wc X 0 _ _ _ hS.res
      have x1 : wc.cell? ⟨X, 1, none⟩ = some (.int .i64 0) := cell_of_row wc X 1 _ _ _ hS.res
      have x2 : wc.cell? ⟨X, 2, none⟩ = some (.bool false) := cell_of_row wc X 2 _ _ _ hS.res
      have x3 : wc.cell? ⟨X, 3, none⟩ = some (.int .u64 0) := cell_of_row wc X 3 _ _ _ hS.res
      have x4 : wc.cell? ⟨X, 4, none⟩ = some (.int .u64 0) := cell_of_row wc X 4 _ _ _ hS.res
      have x5 : wc.cell? ⟨X, 5, none⟩ = some (.int .u64 0) := cell_of_row wc X 5 _ _ _ hS.res
      have x6 : wc.cell? ⟨X, 6, none⟩ = some (.string ⟨#[]⟩) := cell_of_row wc X 6 _ _ _ hS.res
      have xf : ∀ i, wc.frozen? ⟨X, i, none⟩ = false := fun i => frozen_of_row wc X i _ _ hS.res
      have d1 : wc.cell? ⟨X + 1, 1, none⟩ = some (.int .i64 (k2 : Nat)) := cell_of_row wc (X + 1) 1 _ _ _ hS.cur.row
      have d2 : wc.cell? ⟨X + 1, 2, none⟩ = some (.bool bad2) := cell_of_row wc (X + 1) 2 _ _ _ hS.cur.row
      have hlow : Below w.heap.size w (putE wc X x) := putE_low x hS.low hS.ord.1
      have H5 := hid (And.intro hlow (And.intro hR (putE_row (y := Exp.zero) x hS.res)))
      clear hS heq hR hlow
      cases bad2 with
      | true =>
        first | go_region | fail "region"
        all_goals
          rw [show (((((((wc.setCell ⟨X, 0, none⟩ (.string (mkS x.name))).setCell ⟨X, 1, none⟩ (.int .i64 x.kind)).setCell ⟨X, 2, none⟩ (.bool x.weak)).setCell ⟨X, 3, none⟩ (.int .u64 (x.value : Int))).setCell ⟨X, 4, none⟩ (.int .u64 (x.resolver : Int))).setCell ⟨X, 5, none⟩ (.int .u64 (x.ordinal : Int))).setCell ⟨X, 6, none⟩ (.string (mkS x.other))) = putE wc X x from rfl]
          obtain ⟨W6, hW6⟩ : ∃ W6, W6 = putE wc X x := ⟨_, rfl⟩
          rw [← hW6] at H5 ⊢
          clear hW6 x0 x1 x2 x3 x4 x5 x6 xf q0 q1 q2 q3 q4 q5 q6 d1 d2
          have y0 : W6.cell? ⟨X, 0, none⟩ = some (.string (mkS x.name)) := cell_of_row W6 X 0 _ _ _ H5.out.2.2
          have y1 : W6.cell? ⟨X, 1, none⟩ = some (.int .i64 x.kind) := cell_of_row W6 X 1 _ _ _ H5.out.2.2
          have y2 : W6.cell? ⟨X, 2, none⟩ = some (.bool x.weak) := cell_of_row W6 X 2 _ _ _ H5.out.2.2
          have y3 : W6.cell? ⟨X, 3, none⟩ = some (.int .u64 (x.value : Int)) := cell_of_row W6 X 3 _ _ _ H5.out.2.2
          have y4 : W6.cell? ⟨X, 4, none⟩ = some (.int .u64 (x.resolver : Int)) := cell_of_row W6 X 4 _ _ _ H5.out.2.2
          have y5 : W6.cell? ⟨X, 5, none⟩ = some (.int .u64 (x.ordinal : Int)) := cell_of_row W6 X 5 _ _ _ H5.out.2.2
          have y6 : W6.cell? ⟨X, 6, none⟩ = some (.string (mkS x.other)) := cell_of_row W6 X 6 _ _ _ H5.out.2.2
          go_wp2_with fail
          refine bodyPost_ret (v := .tuple #[.agg x.cells.toArray, .bool false]) (by simp [results, Tryz.results71, go_sem, Exp.cells, y0, y1, y2, y3, y4, y5, y6]) rfl ?_
          exact ⟨x, false, rfl, ⟨H5.out.1.os, H5.out.1.tape, H5.out.1.output, H5.out.1.size, H5.out.1.block⟩, by rw [H5.out.2.1]; rfl, fun h => by cases h⟩
      | false =>
        obtain ⟨E, hE⟩ : ∃ E, E = (k2 == l.length) := ⟨_, rfl⟩
        have hE2 : ((k2 : Int) == (l.length : Int)) = E := by rw [hE, Bool.eq_iff_iff, beq_iff_eq, beq_iff_eq]; omega
        have HE := hid hE
        clear hE
        first | go_region | fail "region"
        all_goals
          rw [show (((((((wc.setCell ⟨X, 0, none⟩ (.string (mkS x.name))).setCell ⟨X, 1, none⟩ (.int .i64 x.kind)).setCell ⟨X, 2, none⟩ (.bool x.weak)).setCell ⟨X, 3, none⟩ (.int .u64 (x.value : Int))).setCell ⟨X, 4, none⟩ (.int .u64 (x.resolver : Int))).setCell ⟨X, 5, none⟩ (.int .u64 (x.ordinal : Int))).setCell ⟨X, 6, none⟩ (.string (mkS x.other))) = putE wc X x from rfl]
          obtain ⟨W6, hW6⟩ : ∃ W6, W6 = putE wc X x := ⟨_, rfl⟩
          rw [← hW6] at H5 ⊢
          clear hW6 x0 x1 x2 x3 x4 x5 x6 xf q0 q1 q2 q3 q4 q5 q6 d1 d2
          have y0 : W6.cell? ⟨X, 0, none⟩ = some (.string (mkS x.name)) := cell_of_row W6 X 0 _ _ _ H5.out.2.2
          have y1 : W6.cell? ⟨X, 1, none⟩ = some (.int .i64 x.kind) := cell_of_row W6 X 1 _ _ _ H5.out.2.2
          have y2 : W6.cell? ⟨X, 2, none⟩ = some (.bool x.weak) := cell_of_row W6 X 2 _ _ _ H5.out.2.2
          have y3 : W6.cell? ⟨X, 3, none⟩ = some (.int .u64 (x.value : Int)) := cell_of_row W6 X 3 _ _ _ H5.out.2.2
          have y4 : W6.cell? ⟨X, 4, none⟩ = some (.int .u64 (x.resolver : Int)) := cell_of_row W6 X 4 _ _ _ H5.out.2.2
          have y5 : W6.cell? ⟨X, 5, none⟩ = some (.int .u64 (x.ordinal : Int)) := cell_of_row W6 X 5 _ _ _ H5.out.2.2
          have y6 : W6.cell? ⟨X, 6, none⟩ = some (.string (mkS x.other)) := cell_of_row W6 X 6 _ _ _ H5.out.2.2
          go_wp2_with fail
          refine bodyPost_ret (v := .tuple #[.agg x.cells.toArray, .bool E]) (by simp [results, Tryz.results71, go_sem, Exp.cells, y0, y1, y2, y3, y4, y5, y6]) rfl ?_
          exact ⟨x, E, rfl, ⟨H5.out.1.os, H5.out.1.tape, H5.out.1.output, H5.out.1.size, H5.out.1.block⟩, by rw [H5.out.2.1, HE.out]; rfl, fun _ => by rw [H5.out.2.1]⟩
end Go.Proofs.YthhjdkcnkdffcaaGreat

namespace Go.Proofs.YthhjdkcnkdffcaaGreat
set_option linter.unusedSimpArgs false
set_option linter.unusedVariables false
theorem restM_ref (l : List UInt8) (n : Nat) (s : Cu) (acc : List KidM) (hs : s.bad = false) :
    restM l (n + 1) s acc = if (numR l (textRf l s).2).2.bad = true ∨ (textRf l s).1 = [] then none else if acc.any (fun x => x.edge.head? == (textRf l s).1.head?) then none else restM l n (numR l (textRf l s).2).2 (acc ++ [⟨(textRf l s).1, placeM (numR l (textRf l s).2).1 l.length⟩]) := by
  obtain ⟨k, b⟩ := s
  simp at hs
  subst hs
  rw [restM_step l n ⟨k, false⟩ (textC l 255 ⟨k, false⟩).2 (numC l (textC l 255 ⟨k, false⟩).2).2 acc (textC l 255 ⟨k, false⟩).1 (numC l (textC l 255 ⟨k, false⟩).2).1 rfl rfl, textRf_good]
  cases ht : textR (l.drop k) with
  | none => rw [textC_none ht]; simp
  | some q =>
    obtain ⟨t, j⟩ := q
    rw [textC_some ht]
    dsimp only
    rw [← numR_good]
    by_cases h0 : t = []
    · rw [if_pos h0, if_pos (.inr h0)]
    · rw [if_neg h0]
      obtain ⟨v, s2⟩ := numR l ⟨k + j, false⟩
      obtain ⟨a2, b2⟩ := s2
      cases b2 with
      | true =>
        have e : ∀ acc', restM l n ⟨a2, true⟩ acc' = none := fun _ => rfl
        simp [e]
      | false => simp [h0]
theorem headM_ref {l : List UInt8} {at_ size k : Nat} (hs : size ≠ 0) (hb : size ≤ l.length - (at_ + k)) :
    headM l at_ size k = if ((saysRf ((l.drop (at_ + k)).take size)).2.1 && (saysRf ((l.drop (at_ + k)).take size)).2.2.at_ == size) = true then some (saysRf ((l.drop (at_ + k)).take size)).1 else none := by
  have hl : (l.drop (at_ + k)).length = l.length - (at_ + k) := List.length_drop
  have hlen : ((l.drop (at_ + k)).take size).length = size := by rw [List.length_take, hl]; omega
  have hj := saysRf_just ((l.drop (at_ + k)).take size)
  rw [hlen] at hj
  unfold headM
  rw [if_neg hs]
  by_cases hok : ((saysRf ((l.drop (at_ + k)).take size)).2.1 && (saysRf ((l.drop (at_ + k)).take size)).2.2.at_ == size) = true
  · rw [if_pos hok]
    obtain ⟨x, hx⟩ := hj.1 hok
    have h1 := (says_just (l.drop (at_ + k)) size (by omega) x).1 hx
    rw [h1]
    dsimp only
    rw [if_pos rfl]
    have h2 := saysRf_R ((l.drop (at_ + k)).take size)
    rw [hx] at h2
    dsimp only at h2
    rw [h2]
  · rw [if_neg hok]
    cases h : saysR (l.drop (at_ + k)) with
    | none => rfl
    | some q =>
      obtain ⟨x, k2⟩ := q
      dsimp only
      split
      · rename_i e
        subst e
        exact absurd (hj.2 ⟨x, (says_just (l.drop (at_ + k)) k2 (by omega) x).2 h⟩) hok
      · rfl
end Go.Proofs.YthhjdkcnkdffcaaGreat

namespace Go.Proofs.YthhjdkcnkdffcaaGreat
set_option linter.unusedSimpArgs false
set_option linter.unusedVariables false
open Go.RowKit
/-- The reference's node, its nine cells. -/
abbrev nodeR (x : Exp) (e : Bool) (kv : Value) : Array Value := #[.bool e, .string (mkS x.name), .int .i64 x.kind, .bool x.weak, .int .u64 (x.value : Int), .int .u64 (x.resolver : Int), .int .u64 (x.ordinal : Int), .string (mkS x.other), kv]
abbrev nodeZ : Array Value := #[.bool false, .string ⟨#[]⟩, .int .i64 0, .bool false, .int .u64 0, .int .u64 0, .int .u64 0, .string ⟨#[]⟩, .slice none 0 0]
/-- What a call of Read brings about. -/
def ReadR (w w' : World) (l : List UInt8) (at_ : Nat) (nv : Value) (b : Bool) : Prop :=
  Below w.heap.size w w' ∧ ∃ x e kv, nv = .agg (nodeR x e kv) ∧ (∃ p n cp, kv = .slice p n cp) ∧
  match readM l at_ with
  | some n => b = true ∧ x = n.says ∧ e = n.ends ∧ w'.ownsRow w.heap.size 123 2 kv n.kids.length (kidCells n.kids)
  | none => b = false
structure NS (w W : World) (R X c : Nat) (p : Option Addr) (cap : Nat) (l : List UInt8) (s : Cu) (x : Exp) (e : Bool) (kv : Value) (acc : List KidM) : Prop where
  res : RowAt W R 119 nodeZ
  row : RowAt W X 119 (nodeR x e kv)
  cur : RAt W c p cap l s
  own : W.ownsRow (c + 1) 123 2 kv acc.length (kidCells acc)
  low : Below w.heap.size w W
  ord : w.heap.size ≤ R ∧ R < X ∧ X < c
/-- What a call of Read brings about, and what it returns. -/
def ReadRet (w : World) (l : List UInt8) (at_ : Nat) (e : Ending) (w' : World) : Prop := ∃ nv b, e = .returned (.tuple #[nv, .bool b]) ∧ ReadR w w' l at_ nv b
/-- The same, of any cells of the node. -/
def NSW (w V : World) (R X c : Nat) (p : Option Addr) (cap : Nat) (l : List UInt8) (s : Cu) (kv : Value) (acc : List KidM) (vs : Array Value) : Prop :=
  RowAt V R 119 nodeZ ∧ RowAt V X 119 vs ∧ RAt V c p cap l s ∧ V.ownsRow (c + 1) 123 2 kv acc.length (kidCells acc) ∧ Below w.heap.size w V
section
variable {w W W' : World} {R X c : Nat} {p : Option Addr} {cap : Nat} {l : List UInt8} {s s' : Cu} {x : Exp} {e : Bool} {kv kv' : Value} {acc : List KidM}
theorem NS.kn (h : NS w W R X c p cap l s x e kv acc) {k : Nat} (hk : k ≤ c) : kv.ownBlock ≠ some k := fun e => by have := (World.ownsRow.lt h.own k e).1; omega
theorem NS.form (h : NS w W R X c p cap l s x e kv acc) : ∃ a cp, kv = .slice a acc.length cp := ownsRow_form h.own
theorem NS.call (h : NS w W R X c p cap l s x e kv acc) (hc : RAt W' c p cap l s') (hg : W.grownBy W' (some c)) : NS w W' R X c p cap l s' x e kv acc := by
  have ho := h.ord
  exact ⟨h.res.grown hg (fun e => by have := Option.some.inj e; omega), h.row.grown hg (fun e => by have := Option.some.inj e; omega), hc, h.own.kept hg (.inr (h.kn (Nat.le_refl _))), h.low.grown hg h.low.size (fun j e => by have := Option.some.inj e; omega), ho⟩
theorem RAt.below (h : RAt W c p cap l s) (hb : Below W.heap.size W W') : RAt W' c p cap l s := ⟨h.bs.below hb, h.far, h.le, (hb.block _ h.row.lt).trans h.row⟩
theorem NS.below (h : NS w W R X c p cap l s x e kv acc) (hb : Below W.heap.size W W') : NS w W' R X c p cap l s x e kv acc := h.call (h.cur.below hb) (Below.all hb _)
theorem NS.heap (h : NS w W R X c p cap l s x e kv acc) (hh : W'.heap = W.heap) (ho : W'.os = W.os) (ht : W'.tape = W.tape) (hu : W'.output = W.output) : NS w W' R X c p cap l s x e kv acc :=
  h.call (h.cur.heap hh) ⟨ho, ht, hu, by rw [hh]; exact Nat.le_refl _, fun k _ _ => by rw [hh]⟩
/-- A store into a block of the call's own behind the cursor. -/
theorem NS.far (h : NS w W R X c p cap l s x e kv acc) {N i : Nat} (hN : c < N) (hv : kv.ownBlock ≠ some N) (u : Value) : NS w (W.setCell ⟨N, i, none⟩ u) R X c p cap l s x e kv acc := by
  have ho := h.ord
  exact ⟨h.res.other (by omega) u, h.row.other (by omega) u, h.cur.setFar hN u, ownsRow_setOther h.own hv u, h.low.setCell (by show w.heap.size ≤ N; omega) u, ho⟩
theorem NS.farE (h : NS w W R X c p cap l s x e kv acc) {N : Nat} (hN : c < N) (hv : kv.ownBlock ≠ some N) (y : Exp) : NS w (putE W N y) R X c p cap l s x e kv acc := by
  unfold putE
  exact ((((((h.far (i := 0) hN hv _).far (i := 1) hN hv _).far (i := 2) hN hv _).far (i := 3) hN hv _).far (i := 4) hN hv _).far (i := 5) hN hv _).far (i := 6) hN hv _
/-- A store into the cursor. -/
theorem NS.setAt (h : NS w W R X c p cap l s x e kv acc) (k : Nat) (hk : k ≤ l.length) : NS w (W.setCell ⟨c, 1, none⟩ (.int .i64 (k : Nat))) R X c p cap l ⟨k, s.bad⟩ x e kv acc :=
  h.call (h.cur.setAt k hk) (grownBy_setB W c 1 _)
/-- The bytes do not lie in the blocks of the call's own. -/
structure NSB (w : World) (p : Option Addr) (cap : Nat) (l : List UInt8) : Prop where
  far : ∀ k, inBlk (.slice p l.length cap) k → k < w.heap.size
theorem RAt.setAny (h : RAt W c p cap l s) {K i : Nat} (hb : ¬ inBlk (.slice p l.length cap) K) (hK : K ≠ c) (u : Value) : RAt (W.setCell ⟨K, i, none⟩ u) c p cap l s :=
  ⟨h.bs.of_block (fun j hj hlt => heap_setCell_other W _ j u (by simp; intro e; subst e; exact hb hj)), h.far, h.le, h.row.other hK.symm u⟩
/-- A store into the node. -/
theorem NS.setX (h : NS w W R X c p cap l s x e kv acc) (hb : NSB w p cap l) (i : Nat) (u : Value) (vs : Array Value) (hv : RowAt W X 119 vs) : RAt (W.setCell ⟨X, i, none⟩ u) c p cap l s ∧ RowAt (W.setCell ⟨X, i, none⟩ u) R 119 nodeZ ∧ RowAt (W.setCell ⟨X, i, none⟩ u) X 119 (vs.setIfInBounds i u) := by
  have ho := h.ord
  refine ⟨h.cur.setAny (fun hk => by have := hb.far _ hk; omega) (by omega) u, h.res.other (by omega) u, ?_⟩
  unfold RowAt; rw [heap_setCell_same _ _ _ _ _ _ hv]
/-- What is said, written into the node; it ends a name. -/
theorem NS.said (h : NS w W R X c p cap l s x e kv acc) (hb : NSB w p cap l) (y : Exp) :
    NS w ((((((((W.setCell ⟨X, 0, none⟩ (.bool true)).setCell ⟨X, 1, none⟩ (.string (mkS y.name))).setCell ⟨X, 2, none⟩ (.int .i64 y.kind)).setCell ⟨X, 3, none⟩ (.bool y.weak)).setCell ⟨X, 4, none⟩ (.int .u64 (y.value : Int))).setCell ⟨X, 5, none⟩ (.int .u64 (y.resolver : Int))).setCell ⟨X, 6, none⟩ (.int .u64 (y.ordinal : Int))).setCell ⟨X, 7, none⟩ (.string (mkS y.other))) R X c p cap l s y true kv acc := by
  have ho := h.ord
  have hbX : ¬ inBlk (.slice p l.length cap) X := fun hk => by have := hb.far _ hk; omega
  have hkX := h.kn (k := X) (by omega)
  have step : ∀ {V : World} {vs : Array Value} (i : Nat) (u : Value) (vs' : Array Value), vs.setIfInBounds i u = vs' → NSW w V R X c p cap l s kv acc vs → NSW w (V.setCell ⟨X, i, none⟩ u) R X c p cap l s kv acc vs' := fun {V vs} i u vs' he g =>
    ⟨g.1.other (by omega) u, by unfold RowAt; rw [heap_setCell_same _ _ _ _ _ _ g.2.1, he], g.2.2.1.setAny hbX (by omega) u, ownsRow_setOther g.2.2.2.1 hkX u, g.2.2.2.2.setCell (by show w.heap.size ≤ X; omega) u⟩
  have g : NSW w W R X c p cap l s kv acc (nodeR x e kv) := ⟨h.res, h.row, h.cur, h.own, h.low⟩
  have g0 := step 0 (.bool true) #[.bool true, .string (mkS x.name), .int .i64 x.kind, .bool x.weak, .int .u64 (x.value : Int), .int .u64 (x.resolver : Int), .int .u64 (x.ordinal : Int), .string (mkS x.other), kv] rfl g
  have g1 := step 1 (.string (mkS y.name)) #[.bool true, .string (mkS y.name), .int .i64 x.kind, .bool x.weak, .int .u64 (x.value : Int), .int .u64 (x.resolver : Int), .int .u64 (x.ordinal : Int), .string (mkS x.other), kv] rfl g0
  have g2 := step 2 (.int .i64 y.kind) #[.bool true, .string (mkS y.name), .int .i64 y.kind, .bool x.weak, .int .u64 (x.value : Int), .int .u64 (x.resolver : Int), .int .u64 (x.ordinal : Int), .string (mkS x.other), kv] rfl g1
  have g3 := step 3 (.bool y.weak) #[.bool true, .string (mkS y.name), .int .i64 y.kind, .bool y.weak, .int .u64 (x.value : Int), .int .u64 (x.resolver : Int), .int .u64 (x.ordinal : Int), .string (mkS x.other), kv] rfl g2
  have g4 := step 4 (.int .u64 (y.value : Int)) #[.bool true, .string (mkS y.name), .int .i64 y.kind, .bool y.weak, .int .u64 (y.value : Int), .int .u64 (x.resolver : Int), .int .u64 (x.ordinal : Int), .string (mkS x.other), kv] rfl g3
  have g5 := step 5 (.int .u64 (y.resolver : Int)) #[.bool true, .string (mkS y.name), .int .i64 y.kind, .bool y.weak, .int .u64 (y.value : Int), .int .u64 (y.resolver : Int), .int .u64 (x.ordinal : Int), .string (mkS x.other), kv] rfl g4
  have g6 := step 6 (.int .u64 (y.ordinal : Int)) #[.bool true, .string (mkS y.name), .int .i64 y.kind, .bool y.weak, .int .u64 (y.value : Int), .int .u64 (y.resolver : Int), .int .u64 (y.ordinal : Int), .string (mkS x.other), kv] rfl g5
  have g7 := step 7 (.string (mkS y.other)) #[.bool true, .string (mkS y.name), .int .i64 y.kind, .bool y.weak, .int .u64 (y.value : Int), .int .u64 (y.resolver : Int), .int .u64 (y.ordinal : Int), .string (mkS y.other), kv] rfl g6
  exact ⟨g7.1, g7.2.1, g7.2.2.1, g7.2.2.2.1, g7.2.2.2.2, ho⟩
/-- One more child. -/
theorem NS.put {k : KidM} (h : NS w W R X c p cap l s x e kv acc) (hb : NSB w p cap l) (hg : Grew W W' kv kv') (ho : W'.ownsRow (c + 1) 123 2 kv' (acc ++ [k]).length (kidCells (acc ++ [k]))) :
    NS w (W'.setCell ⟨X, 8, none⟩ kv') R X c p cap l s x e kv' (acc ++ [k]) := by
  have hO := h.ord
  have hcl := h.cur.row.lt
  have kb : ∀ j, j ≤ c → W'.heap[j]? = W.heap[j]? := fun j hj => hg.block (by omega) (h.kn hj)
  have hcur : RAt W' c p cap l s := ⟨h.cur.bs.of_block (fun j hj _ => kb j (Nat.le_of_lt (h.cur.far j hj))), h.cur.far, h.cur.le, (kb c (Nat.le_refl _)).trans h.cur.row⟩
  have hbX : ¬ inBlk (.slice p l.length cap) X := fun hk => by have := hb.far _ hk; omega
  have hkX : kv'.ownBlock ≠ some X := fun e => by have := (World.ownsRow.lt ho X e).1; omega
  refine ⟨RowAt.other (show RowAt W' R _ _ from (kb R (by omega)).trans h.res) (by omega) _, ?_, hcur.setAny hbX (by omega) _, ownsRow_setOther ho hkX _, ?_, hO⟩
  · unfold RowAt; rw [heap_setCell_same _ _ _ _ _ _ (show RowAt W' X _ _ from (kb X (by omega)).trans h.row)]; rfl
  · refine Below.setCell ?_ (by show w.heap.size ≤ X; omega) _
    exact h.low.trans ((hg.below (B := c + 1) (by omega) (fun j e => (World.ownsRow.lt h.own j e).1)).mono (by omega))
/-- A node written into a block, cell by cell. -/
def putN (W : World) (R : Nat) (x : Exp) (e : Bool) (kv : Value) : World := (((((((((W.setCell ⟨R, 0, none⟩ (.bool e)).setCell ⟨R, 1, none⟩ (.string (mkS x.name))).setCell ⟨R, 2, none⟩ (.int .i64 x.kind)).setCell ⟨R, 3, none⟩ (.bool x.weak)).setCell ⟨R, 4, none⟩ (.int .u64 (x.value : Int))).setCell ⟨R, 5, none⟩ (.int .u64 (x.resolver : Int))).setCell ⟨R, 6, none⟩ (.int .u64 (x.ordinal : Int))).setCell ⟨R, 7, none⟩ (.string (mkS x.other))).setCell ⟨R, 8, none⟩ (kv))
/-- The node, written into the result's block. -/
theorem NS.ret (h : NS w W R X c p cap l s x e kv acc) : RowAt (putN W R x e kv) R 119 (nodeR x e kv) ∧ Below w.heap.size w (putN W R x e kv) ∧ (putN W R x e kv).ownsRow w.heap.size 123 2 kv acc.length (kidCells acc) := by
  have ho := h.ord
  have hkR := h.kn (k := R) (by omega)
  have step : ∀ {V : World} {vs : Array Value} (i : Nat) (u : Value) (vs' : Array Value), vs.setIfInBounds i u = vs' → (RowAt V R 119 vs ∧ Below w.heap.size w V ∧ V.ownsRow w.heap.size 123 2 kv acc.length (kidCells acc)) → (RowAt (V.setCell ⟨R, i, none⟩ u) R 119 vs' ∧ Below w.heap.size w (V.setCell ⟨R, i, none⟩ u) ∧ (V.setCell ⟨R, i, none⟩ u).ownsRow w.heap.size 123 2 kv acc.length (kidCells acc)) := fun {V vs} i u vs' he g =>
    ⟨by unfold RowAt; rw [heap_setCell_same _ _ _ _ _ _ g.1, he], g.2.1.setCell (by show w.heap.size ≤ R; omega) u, ownsRow_setOther g.2.2 hkR u⟩
  have g : RowAt W R 119 nodeZ ∧ Below w.heap.size w W ∧ W.ownsRow w.heap.size 123 2 kv acc.length (kidCells acc) := ⟨h.res, h.low, ownsRow_base h.own (by omega)⟩
  have g0 := step 0 (.bool e) #[.bool e, .string ⟨#[]⟩, .int .i64 0, .bool false, .int .u64 0, .int .u64 0, .int .u64 0, .string ⟨#[]⟩, .slice none 0 0] rfl g
  have g1 := step 1 (.string (mkS x.name)) #[.bool e, .string (mkS x.name), .int .i64 0, .bool false, .int .u64 0, .int .u64 0, .int .u64 0, .string ⟨#[]⟩, .slice none 0 0] rfl g0
  have g2 := step 2 (.int .i64 x.kind) #[.bool e, .string (mkS x.name), .int .i64 x.kind, .bool false, .int .u64 0, .int .u64 0, .int .u64 0, .string ⟨#[]⟩, .slice none 0 0] rfl g1
  have g3 := step 3 (.bool x.weak) #[.bool e, .string (mkS x.name), .int .i64 x.kind, .bool x.weak, .int .u64 0, .int .u64 0, .int .u64 0, .string ⟨#[]⟩, .slice none 0 0] rfl g2
  have g4 := step 4 (.int .u64 (x.value : Int)) #[.bool e, .string (mkS x.name), .int .i64 x.kind, .bool x.weak, .int .u64 (x.value : Int), .int .u64 0, .int .u64 0, .string ⟨#[]⟩, .slice none 0 0] rfl g3
  have g5 := step 5 (.int .u64 (x.resolver : Int)) #[.bool e, .string (mkS x.name), .int .i64 x.kind, .bool x.weak, .int .u64 (x.value : Int), .int .u64 (x.resolver : Int), .int .u64 0, .string ⟨#[]⟩, .slice none 0 0] rfl g4
  have g6 := step 6 (.int .u64 (x.ordinal : Int)) #[.bool e, .string (mkS x.name), .int .i64 x.kind, .bool x.weak, .int .u64 (x.value : Int), .int .u64 (x.resolver : Int), .int .u64 (x.ordinal : Int), .string ⟨#[]⟩, .slice none 0 0] rfl g5
  have g7 := step 7 (.string (mkS x.other)) #[.bool e, .string (mkS x.name), .int .i64 x.kind, .bool x.weak, .int .u64 (x.value : Int), .int .u64 (x.resolver : Int), .int .u64 (x.ordinal : Int), .string (mkS x.other), .slice none 0 0] rfl g6
  have g8 := step 8 (kv) #[.bool e, .string (mkS x.name), .int .i64 x.kind, .bool x.weak, .int .u64 (x.value : Int), .int .u64 (x.resolver : Int), .int .u64 (x.ordinal : Int), .string (mkS x.other), kv] rfl g7
  exact g8
theorem NS.zeros (h : NS w W R X c p cap l s x e kv acc) : (W.cell? ⟨R, 0, none⟩ = some (.bool false) ∧ W.cell? ⟨R, 1, none⟩ = some (.string ⟨#[]⟩) ∧ W.cell? ⟨R, 2, none⟩ = some (.int .i64 0) ∧ W.cell? ⟨R, 3, none⟩ = some (.bool false) ∧ W.cell? ⟨R, 4, none⟩ = some (.int .u64 0) ∧ W.cell? ⟨R, 5, none⟩ = some (.int .u64 0) ∧ W.cell? ⟨R, 6, none⟩ = some (.int .u64 0) ∧ W.cell? ⟨R, 7, none⟩ = some (.string ⟨#[]⟩) ∧ W.cell? ⟨R, 8, none⟩ = some (.slice none 0 0)) ∧ (∀ i, W.frozen? ⟨R, i, none⟩ = false) ∧
    (W.setCell ⟨R, 0, none⟩ (.bool false) = W ∧ W.setCell ⟨R, 1, none⟩ (.string ⟨#[]⟩) = W ∧ W.setCell ⟨R, 2, none⟩ (.int .i64 0) = W ∧ W.setCell ⟨R, 3, none⟩ (.bool false) = W ∧ W.setCell ⟨R, 4, none⟩ (.int .u64 0) = W ∧ W.setCell ⟨R, 5, none⟩ (.int .u64 0) = W ∧ W.setCell ⟨R, 6, none⟩ (.int .u64 0) = W ∧ W.setCell ⟨R, 7, none⟩ (.string ⟨#[]⟩) = W ∧ W.setCell ⟨R, 8, none⟩ (.slice none 0 0) = W) :=
  ⟨⟨cell_of_row W R 0 _ _ _ h.res, cell_of_row W R 1 _ _ _ h.res, cell_of_row W R 2 _ _ _ h.res, cell_of_row W R 3 _ _ _ h.res, cell_of_row W R 4 _ _ _ h.res, cell_of_row W R 5 _ _ _ h.res, cell_of_row W R 6 _ _ _ h.res, cell_of_row W R 7 _ _ _ h.res, cell_of_row W R 8 _ _ _ h.res⟩, fun i => frozen_of_row W R i _ _ h.res,
    setCell_self h.res 0 _ rfl, setCell_self h.res 1 _ rfl, setCell_self h.res 2 _ rfl, setCell_self h.res 3 _ rfl, setCell_self h.res 4 _ rfl, setCell_self h.res 5 _ rfl, setCell_self h.res 6 _ rfl, setCell_self h.res 7 _ rfl, setCell_self h.res 8 _ rfl⟩
theorem NS.curs (h : NS w W R X c p cap l s x e kv acc) : W.cell? ⟨c, 0, none⟩ = some (.slice p l.length cap) ∧ W.cell? ⟨c, 1, none⟩ = some (.int .i64 (s.at_ : Nat)) ∧ W.cell? ⟨c, 2, none⟩ = some (.bool s.bad) ∧ ∀ i, W.frozen? ⟨c, i, none⟩ = false :=
  ⟨cell_of_row W c 0 _ _ _ h.cur.row, cell_of_row W c 1 _ _ _ h.cur.row, cell_of_row W c 2 _ _ _ h.cur.row, fun i => frozen_of_row W c i _ _ h.cur.row⟩
end
theorem zeroE_cells {W : World} {N : Nat} {t : TypeId} (h : RowAt W N t Exp.zero.cells.toArray) : W.cell? ⟨N, 0, none⟩ = some (.string ⟨#[]⟩) ∧ W.cell? ⟨N, 1, none⟩ = some (.int .i64 0) ∧ W.cell? ⟨N, 2, none⟩ = some (.bool false) ∧ W.cell? ⟨N, 3, none⟩ = some (.int .u64 0) ∧ W.cell? ⟨N, 4, none⟩ = some (.int .u64 0) ∧ W.cell? ⟨N, 5, none⟩ = some (.int .u64 0) ∧ W.cell? ⟨N, 6, none⟩ = some (.string ⟨#[]⟩) ∧ ∀ i, W.frozen? ⟨N, i, none⟩ = false :=
  ⟨cell_of_row W N 0 _ _ _ h, cell_of_row W N 1 _ _ _ h, cell_of_row W N 2 _ _ _ h, cell_of_row W N 3 _ _ _ h, cell_of_row W N 4 _ _ _ h, cell_of_row W N 5 _ _ _ h, cell_of_row W N 6 _ _ _ h, fun i => frozen_of_row W N i _ _ h⟩
/-- A child's two cells, of whatever type of children. -/
theorem kidsRow_at {W : World} {base : Nat} {t : TypeId} {kv : Value} {ks : List KidM} (h : W.ownsRow base t 2 kv ks.length (kidCells ks)) {i : Nat} {k : KidM} (hk : ks[i]? = some k) :
    ∃ g cap, kv = .slice (some ⟨g, 0, none⟩) ks.length cap ∧ g < W.heap.size ∧ W.cell? ⟨g, i * 2, none⟩ = some (.string (mkS k.edge)) ∧ W.cell? ⟨g, i * 2 + 1, none⟩ = some (.int .i64 k.to) := by
  have hlt := (List.getElem?_eq_some_iff.1 hk).1
  rcases h.2 with ⟨_, h1⟩ | ⟨g, cap, cur, rfl, h2, hg, h3, h4, h5, h6⟩
  · omega
  · obtain ⟨h7, h8⟩ := kidCells_get ks i k hk
    refine ⟨g, cap, rfl, (World.ownsRow.lt h g rfl).2, ?_, ?_⟩
    · rw [cell_of_row W g (i * 2) _ _ _ hg]
      rw [← h6, List.getElem?_take, if_pos (by omega)] at h7
      simpa using h7
    · rw [cell_of_row W g (i * 2 + 1) _ _ _ hg]
      rw [← h6, List.getElem?_take, if_pos (by omega)] at h8
      simpa using h8
theorem any_snoc {l : List KidM} {j : Nat} {x : KidM} (hx : l[j]? = some x) (p : KidM → Bool) : (l.take (j + 1)).any p = ((l.take j).any p || p x) := by
  rw [List.take_add_one, hx]; simp
theorem row3 (w : World) (o0 o1 o2 : Obj) : (((w.alloc o0).alloc o1).alloc o2).heap[w.heap.size]? = some o0 ∧ (((w.alloc o0).alloc o1).alloc o2).heap[w.heap.size + 1]? = some o1 ∧ (((w.alloc o0).alloc o1).alloc o2).heap[w.heap.size + 2]? = some o2 := by
  refine ⟨?_, ?_, ?_⟩
  · exact (Below.heap_alloc ((w.alloc o0).alloc o1) o2 _ (by simp; try omega)).trans ((Below.heap_alloc (w.alloc o0) o1 _ (by simp; try omega)).trans (heap_alloc_new w o0))
  · have hs : (w.alloc o0).heap.size = w.heap.size + 1 := by simp
    rw [← hs]; exact (Below.heap_alloc ((w.alloc o0).alloc o1) o2 _ (by simp; try omega)).trans (heap_alloc_new (w.alloc o0) o1)
  · have hs : ((w.alloc o0).alloc o1).heap.size = w.heap.size + 2 := by simp
    rw [← hs]; exact heap_alloc_new ((w.alloc o0).alloc o1) o2
theorem NS.start {w : World} {p : Option Addr} {cap : Nat} {l : List UInt8} (h : BS w (.slice p l.length cap) l) {at_ : Nat} (hat : at_ ≤ l.length) :
    NS w (((w.alloc (.cells nodeZ 119)).alloc (.cells nodeZ 119)).alloc (.cells #[.slice p l.length cap, .int .i64 (at_ : Nat), .bool false] 150)) w.heap.size (w.heap.size + 1) (w.heap.size + 2) p cap l ⟨at_, false⟩ Exp.zero false (.slice none 0 0) [] := by
  have hb : Below w.heap.size w (((w.alloc (.cells nodeZ 119)).alloc (.cells nodeZ 119)).alloc (.cells #[.slice p l.length cap, .int .i64 (at_ : Nat), .bool false] 150)) :=
    (((Below.refl _ _).alloc (Nat.le_refl _) _).alloc (by simp) _).alloc (by simp; omega) _
  have hr := row3 w (.cells nodeZ 119) (.cells nodeZ 119) (.cells #[.slice p l.length cap, .int .i64 (at_ : Nat), .bool false] 150)
  exact ⟨hr.1, hr.2.1, ⟨h.below hb, fun k hk => by have := inBlk_lt h hk; omega, hat, hr.2.2⟩, World.ownsRow_nil _ _ _ _, hb, Nat.le_refl _, by omega, by omega⟩
theorem Tryz.infoKidR : (Tryz.prog.info? 123).map (fun i => (i.zero, i.size, i.bytes)) = some (some (.agg #[.string ⟨#[]⟩, .int .i64 0]), 2, 24) := by kernel_rfl
end Go.Proofs.YthhjdkcnkdffcaaGreat

namespace Go.Proofs.YthhjdkcnkdffcaaGreat
set_option linter.unusedSimpArgs false
set_option linter.unusedVariables false
open Go.RowKit
/-- What stands behind what is said of a name. -/
def HeadR (w : World) (R X c : Nat) (p : Option Addr) (cap : Nat) (l : List UInt8) (at_ size k : Nat) (B : Nat) (wx : World) : Prop :=
  ∃ x, NS w wx R X c p cap l ⟨B, false⟩ x (decide (0 < size)) (.slice none 0 0) [] ∧ headM l at_ size k = some x
/-- What was said of a name. -/
def SaysR (w : World) (R X c : Nat) (p : Option Addr) (cap : Nat) (l : List UInt8) (A size : Nat) (v9 v10 : Value) (wx : World) : Prop :=
  ∃ x ok N, v9 = .pointer (some ⟨N, 0, none⟩) ∧ v10 = .bool ok ∧ NS w wx R X c p cap l ⟨A, false⟩ Exp.zero false (.slice none 0 0) [] ∧ RowAt wx N 25 x.cells.toArray ∧ c < N ∧
    ok = ((saysRf ((l.drop A).take size)).2.1 && (saysRf ((l.drop A).take size)).2.2.at_ == size) ∧ (ok = true → x = (saysRf ((l.drop A).take size)).1)
def KidsR (w : World) (R X c : Nat) (p : Option Addr) (cap : Nat) (l : List UInt8) (x : Exp) (e : Bool) (m : Nat) (res : Option (List KidM)) (i : Value) (wr : World) : Prop :=
  ∃ j acc s kv, j ≤ m ∧ i = .int .i64 (j : Int) ∧ acc.length ≤ j ∧ s.bad = false ∧ NS w wr R X c p cap l s x e kv acc ∧ (∀ k ∈ acc, k.edge ≠ []) ∧ res = restM l (m - j) s acc
/-- So many children begin with another byte. -/
def InnerR (W : World) (acc : List KidM) (b : UInt8) (i : Value) (wr : World) : Prop :=
  ∃ (j q : Nat), j ≤ acc.length ∧ i = .int .i64 (j : Int) ∧ wr = W.drewN q ∧ Aside ((acc.take j).any (fun x => x.edge.head? == some b) = false)
set_option maxHeartbeats 8000000 in
set_option maxRecDepth 4000 in
theorem ref_read (w : World) (p : Option Addr) (n cap : Nat) (l : List UInt8) (at_ : Nat) (h : BS w (.slice p n cap) l) (hat : at_ ≤ l.length) :
    Calls Tryz.prog 51 #[.slice p n cap, .int .i64 (at_ : Nat)] w (ReadRet w l at_) := by
  obtain rfl := h.len
  have hcp := h.cap
  have H0 := hid (And.intro h hat)
  have hN : NS w _ _ _ _ p cap l ⟨at_, false⟩ Exp.zero false (.slice none 0 0) [] := NS.start h hat
  have hB : NSB w p cap l := ⟨fun k hk => inBlk_lt h hk⟩
  obtain ⟨W1, hW1⟩ : ∃ W1, W1 = (((w.alloc (.cells nodeZ 119)).alloc (.cells nodeZ 119)).alloc (.cells #[.slice p l.length cap, .int .i64 (at_ : Nat), .bool false] 150)) := ⟨_, rfl⟩
  rw [← hW1] at hN
  have H1 := hid (And.intro hN hB)
  clear h hN hB hat
  go_enter Tryz.func51, Tryz.ntmps51
  go_wp2_with fail
  rw [← hW1]
  obtain ⟨R, hR⟩ : ∃ R, R = w.heap.size := ⟨_, rfl⟩
  rw [← hR] at H1 ⊢
  have HR := hid (And.intro hR hW1)
  clear hR hW1
  refine (ref_number W1 _ p cap l ⟨at_, false⟩ H1.out.1.cur).mono ?_
  rintro e w2 ⟨rfl, hc2, hg2⟩
  have h2 := H1.out.1.call hc2 hg2
  cases hu : ulebM (l.drop at_) with
  | none =>
    rw [numR_none hu] at h2 ⊢
    obtain ⟨⟨r0, r1, r2, r3, r4, r5, r6, r7, r8⟩, rf, z0, z1, z2, z3, z4, z5, z6, z7, z8⟩ := h2.zeros
    obtain ⟨d0, d1, d2, df⟩ := h2.curs
    have H2 := hid (And.intro h2 hu)
    clear h2 hc2 hg2 hu
    go_wp2_with fail
    refine bodyPost_ret (v := .tuple #[.agg nodeZ, .bool false]) (by simp [results, Tryz.results51, go_sem, r0, r1, r2, r3, r4, r5, r6, r7, r8]) rfl ?_
    exact ⟨_, false, rfl, H2.out.1.low, Exp.zero, false, .slice none 0 0, rfl, ⟨none, 0, 0, rfl⟩, by rw [readM_none H2.out.2]⟩
  | some q =>
    obtain ⟨size, k⟩ := q
    rw [numR_some hu] at h2 ⊢
    have hul := ulebM_lt hu
    rw [List.length_drop] at hul
    obtain ⟨A, hA⟩ : ∃ A, A = at_ + k := ⟨_, rfl⟩
    rw [← hA] at h2
    have hAl : A ≤ l.length := by have := H0.out.2; omega
    obtain ⟨lf, hlf⟩ : ∃ lf, lf = l.length - A := ⟨_, rfl⟩
    have hwl : IntKind.u64.wrap ((l.length : Int) - (A : Int)) = (lf : Int) := by rw [show (l.length : Int) - (A : Int) = (lf : Int) from by omega]; exact IntWalk.u64_in _ (by omega)
    obtain ⟨⟨r0, r1, r2, r3, r4, r5, r6, r7, r8⟩, rf, z0, z1, z2, z3, z4, z5, z6, z7, z8⟩ := h2.zeros
    obtain ⟨d0, d1, d2, df⟩ := h2.curs
    have H2 := hid (And.intro h2 hu)
    have HA := hid (And.intro hA hlf)
    have hs64 := hul.1
    clear h2 hc2 hg2 hu hA hlf hul
    dsimp only at d0 d1 d2 ⊢
    by_cases hbig : lf < size
    · have hd1 : decide ((lf : Int) < (size : Int)) = true := by simp; omega
      have hd2 : decide (lf < size) = true := by simp; omega
      have Hb := hid hbig
      clear hbig
      go_wp2_with fail
      refine bodyPost_ret (v := .tuple #[.agg nodeZ, .bool false]) (by simp [results, Tryz.results51, go_sem, r0, r1, r2, r3, r4, r5, r6, r7, r8]) rfl ?_
      exact ⟨_, false, rfl, H2.out.1.low, Exp.zero, false, .slice none 0 0, rfl, ⟨none, 0, 0, rfl⟩, by rw [readM_big H2.out.2 (by have h1 := HA.out.1; have h2 := HA.out.2; have h3 := Hb.out; omega)]⟩
    have hd1 : decide ((lf : Int) < (size : Int)) = false := by simp; omega
    have hd2 : decide (lf < size) = false := by simp; omega
    have Hb := hid hbig
    have hAs : A + size ≤ l.length := by have := HA.out.2; omega
    clear hbig r0 r1 r2 r3 r4 r5 r6 r7 r8 rf z0 z1 z2 z3 z4 z5 z6 z7 z8
    go_upto_if 40 with fail
    obtain ⟨B, hBe⟩ : ∃ B, B = A + size := ⟨_, rfl⟩
    have HB := hid hBe
    go_cut [] (fun wx => HeadR w R (R + 1) (R + 2) p cap l at_ size k B wx)
    case first =>
      cases hP : decide (0 < size) with
      | false =>
        have Hz := hid (show size = 0 by simpa using hP)
        have HP := hid hP
        clear hP
        go_wp2_with fail
        go_meet
        refine ⟨Exp.zero, ?_, by unfold headM; rw [if_pos Hz.out]⟩
        have h := H2.out.1
        rw [HP.out, HB.out, Hz.out]
        exact h
      | true =>
        have HP := hid hP
        have hsl : ∀ w : World, (Instr.slice 27 (.slice p l.length cap) (some (.int .i64 (A : Int))) (some (.int .i64 ((A : Int) + (size : Int)))) none).run Tryz.prog w = .ok (.slice (subA p A cap) size (cap - A)) w := fun w => by
          have := run_sub2 (P := Tryz.prog) (w := w) (t := 27) p l.length cap un_bs (sz_u8 w) .i64 .i64 (A : Int) ((A : Int) + (size : Int)) (by omega) (by omega) (by omega)
          rw [this]; congr 2; omega
        have hw1 : IntKind.i64.wrap (size : Int) = (size : Int) := IntWalk.i64_in _ (by omega)
        have hw2 : IntKind.i64.wrap ((A : Int) + (size : Int)) = (A : Int) + (size : Int) := IntWalk.i64_in _ (by omega)
        have hsub : BS w2 (.slice (subA p A cap) size (cap - A)) ((l.drop A).take size) := by
          have := sub_bs H2.out.1.cur.bs (lo := A) (hi := A + size) (m := cap) (by omega) (by omega) (by omega) (Nat.le_refl _)
          rwa [show A + size - A = size by omega] at this
        have hlen : ((l.drop A).take size).length = size := by rw [List.length_take, List.length_drop]; omega
        have hba : Below w2.heap.size w2 (w2.alloc (.cells Exp.zero.cells.toArray 25)) := (Below.refl _ _).alloc (Nat.le_refl _) _
        have hsay1 := ref_says w2.drew _ _ _ _ (hsub.heap (w' := w2.drew) rfl)
        have hsay2 : Calls Tryz.prog 71 #[.slice (subA p A cap) size (cap - A)] (w2.alloc (.cells #[.string ⟨#[]⟩, .int .i64 0, .bool false, .int .u64 0, .int .u64 0, .int .u64 0, .string ⟨#[]⟩] 25)).drew _ := ref_says (w2.alloc (.cells Exp.zero.cells.toArray 25)).drew _ _ _ _ ((hsub.below hba).heap (w' := (w2.alloc (.cells Exp.zero.cells.toArray 25)).drew) rfl)
        have hN2 : NS w (w2.alloc (.cells Exp.zero.cells.toArray 25)) R (R + 1) (R + 2) p cap l ⟨A, false⟩ Exp.zero false (.slice none 0 0) [] := H2.out.1.below hba
        have hY : RowAt (w2.alloc (.cells Exp.zero.cells.toArray 25)) w2.heap.size 25 Exp.zero.cells.toArray := heap_alloc_new w2 _
        have hclt : R + 2 < w2.heap.size := H2.out.1.cur.row.lt
        have Hsay := hid (And.intro hsay1 (And.intro hsay2 (And.intro hN2 (And.intro hY (And.intro hlen hclt)))))
        clear hsub hsay1 hsay2 hP hN2 hY hlen hba
        go_upto_region 7 with fail
        go_cut [9, 10] (fun v9 v10 wx => SaysR w R (R + 1) (R + 2) p cap l A size v9 v10 wx)
        case first =>
          go_region_with (first
            | (go_at_call 71; (with_reducible refine Hsay.out.1.mono ?_); rintro e w4 ⟨x, ok, rfl, hb4, hok, hx⟩; rw [show x.cells.toArray = #[.string (mkS x.name), .int .i64 x.kind, .bool x.weak, .int .u64 (x.value : Int), .int .u64 (x.resolver : Int), .int .u64 (x.ordinal : Int), .string (mkS x.other)] from rfl]; have Hk := hid (And.intro hb4 (And.intro hok hx)); clear hb4 hok hx)
            | (go_at_call 71; (with_reducible refine Hsay.out.2.1.mono ?_); rintro e w4 ⟨x, ok, rfl, hb4, hok, hx⟩; rw [show x.cells.toArray = #[.string (mkS x.name), .int .i64 x.kind, .bool x.weak, .int .u64 (x.value : Int), .int .u64 (x.resolver : Int), .int .u64 (x.ordinal : Int), .string (mkS x.other)] from rfl];
                have hY : RowAt w4 w2.heap.size 25 Exp.zero.cells.toArray := (hb4.block _ Hsay.out.2.2.2.1.lt).trans Hsay.out.2.2.2.1; obtain ⟨y0, y1, y2, y3, y4, y5, y6, yf⟩ := zeroE_cells hY; have Hk := hid (And.intro hb4 (And.intro hok hx)); have HY := hid hY; clear hb4 hok hx hY)
            | fail "no call")
          all_goals
            go_wp2_with fail
            go_meet
            first
            | exact ⟨x, ok, w4.heap.size, rfl, rfl, (((H2.out.1.heap (W' := w2.drew) rfl rfl rfl rfl).below Hk.out.1).below ((Below.refl _ _).alloc (Nat.le_refl _) _)), heap_alloc_new w4 _, ((H2.out.1.heap (W' := w2.drew) rfl rfl rfl rfl).below Hk.out.1).cur.row.lt, by rw [Hk.out.2.1, Hsay.out.2.2.2.2.1], Hk.out.2.2⟩
            | exact ⟨x, ok, w2.heap.size, rfl, rfl, ((Hsay.out.2.2.1.heap (W' := (w2.alloc (.cells Exp.zero.cells.toArray 25)).drew) rfl rfl rfl rfl).below Hk.out.1).farE hclt (fun e => by cases e) x, putE_row x HY.out, hclt, by rw [Hk.out.2.1, Hsay.out.2.2.2.2.1], Hk.out.2.2⟩
        case rest =>
          obtain ⟨x, ok, N, rfl, rfl, hS, hY, hN, hok, hx⟩ := hcut
          have hh := headM_ref (l := l) (at_ := at_) (size := size) (k := k) (by have := HP.out; simp at this; omega) (by have := HA.out.1; omega)
          rw [← HA.out.1, ← hok] at hh
          clear d0 d1 d2 df
          cases ok with
          | false =>
            rw [if_neg (by simp)] at hh
            obtain ⟨⟨r0, r1, r2, r3, r4, r5, r6, r7, r8⟩, rf, z0, z1, z2, z3, z4, z5, z6, z7, z8⟩ := hS.zeros
            have H3 := hid (And.intro hS hh)
            clear hS hY hN hok hx hh
            go_wp2_with fail
            refine bodyPost_ret (v := .tuple #[.agg nodeZ, .bool false]) (by simp [results, Tryz.results51, go_sem, r0, r1, r2, r3, r4, r5, r6, r7, r8]) rfl ?_
            exact ⟨_, false, rfl, H3.out.1.low, Exp.zero, false, .slice none 0 0, rfl, ⟨none, 0, 0, rfl⟩, by rw [readM_no H2.out.2 H3.out.2]⟩
          | true =>
            have y0 : wc.cell? ⟨N, 0, none⟩ = some (.string (mkS x.name)) := cell_of_row wc N 0 _ _ _ hY
            have y1 : wc.cell? ⟨N, 1, none⟩ = some (.int .i64 x.kind) := cell_of_row wc N 1 _ _ _ hY
            have y2 : wc.cell? ⟨N, 2, none⟩ = some (.bool x.weak) := cell_of_row wc N 2 _ _ _ hY
            have y3 : wc.cell? ⟨N, 3, none⟩ = some (.int .u64 (x.value : Int)) := cell_of_row wc N 3 _ _ _ hY
            have y4 : wc.cell? ⟨N, 4, none⟩ = some (.int .u64 (x.resolver : Int)) := cell_of_row wc N 4 _ _ _ hY
            have y5 : wc.cell? ⟨N, 5, none⟩ = some (.int .u64 (x.ordinal : Int)) := cell_of_row wc N 5 _ _ _ hY
            have y6 : wc.cell? ⟨N, 6, none⟩ = some (.string (mkS x.other)) := cell_of_row wc N 6 _ _ _ hY
            have n0 : wc.cell? ⟨R + 1, 0, none⟩ = some (.bool false) := cell_of_row wc (R + 1) 0 _ _ _ hS.row
            have n1 : wc.cell? ⟨R + 1, 1, none⟩ = some (.string ⟨#[]⟩) := cell_of_row wc (R + 1) 1 _ _ _ hS.row
            have n2 : wc.cell? ⟨R + 1, 2, none⟩ = some (.int .i64 0) := cell_of_row wc (R + 1) 2 _ _ _ hS.row
            have n3 : wc.cell? ⟨R + 1, 3, none⟩ = some (.bool false) := cell_of_row wc (R + 1) 3 _ _ _ hS.row
            have n4 : wc.cell? ⟨R + 1, 4, none⟩ = some (.int .u64 0) := cell_of_row wc (R + 1) 4 _ _ _ hS.row
            have n5 : wc.cell? ⟨R + 1, 5, none⟩ = some (.int .u64 0) := cell_of_row wc (R + 1) 5 _ _ _ hS.row
            have n6 : wc.cell? ⟨R + 1, 6, none⟩ = some (.int .u64 0) := cell_of_row wc (R + 1) 6 _ _ _ hS.row
            have n7 : wc.cell? ⟨R + 1, 7, none⟩ = some (.string ⟨#[]⟩) := cell_of_row wc (R + 1) 7 _ _ _ hS.row
            have nf : ∀ i, wc.frozen? ⟨R + 1, i, none⟩ = false := fun i => frozen_of_row wc (R + 1) i _ _ hS.row
            obtain ⟨d0, d1, d2, df⟩ := hS.curs
            dsimp only at d1 d2
            have hNR : N ≠ R + 1 := by omega
            rw [if_pos rfl, ← hx rfl] at hh
            have h4 := (hS.said H1.out.2 x).setAt (A + size) hAs
            rw [show ((A + size : Nat) : Int) = (A : Int) + (size : Int) from by omega] at h4
            have H3 := hid (And.intro hh h4)
            clear hS hY hN hok hx hh h4
            go_wp2_with fail
            go_meet
            refine ⟨x, ?_, H3.out.1⟩
            rw [HP.out, HB.out]
            exact H3.out.2
    case rest =>
      obtain ⟨x, hS, hh⟩ := hcut
      clear hwl hd1 hd2 d0 d1 d2 df hs64
      obtain ⟨P, hP⟩ : ∃ P, P = decide (0 < size) := ⟨_, rfl⟩
      rw [← hP] at hS
      obtain ⟨d0, d1, d2, df⟩ := hS.curs
      dsimp only at d1 d2
      have hBl : B ≤ l.length := by omega
      have hBA : at_ + k + size = B := by have := HA.out.1; omega
      have hnb : ¬ l.length - (at_ + k) < size := by have h1 := HA.out.1; have h2 := HA.out.2; have h3 := Hb.out; omega
      have HP := hid hP
      have Hx := hid (And.intro hh (And.intro hBA hnb))
      clear hP hh hBA hnb hAs hAl hBe
      by_cases hend : B = l.length
      · have hd1 : ((B : Int) == (l.length : Int)) = true := by rw [beq_iff_eq]; omega
        have hr : readM l at_ = none := by
          rw [readM_head H2.out.2 Hx.out.2.2, Hx.out.1, Hx.out.2.1, List.getElem?_eq_none (by omega)]
        have Hr := hid hr
        clear hr hend
        obtain ⟨⟨r0, r1, r2, r3, r4, r5, r6, r7, r8⟩, rf, z0, z1, z2, z3, z4, z5, z6, z7, z8⟩ := hS.zeros
        have H3 := hid hS
        clear hS
        go_wp2_with fail
        refine bodyPost_ret (v := .tuple #[.agg nodeZ, .bool false]) (by simp [results, Tryz.results51, go_sem, r0, r1, r2, r3, r4, r5, r6, r7, r8]) rfl ?_
        exact ⟨_, false, rfl, ⟨H3.out.low.os, H3.out.low.tape, H3.out.low.output, H3.out.low.size, H3.out.low.block⟩, Exp.zero, false, .slice none 0 0, rfl, ⟨none, 0, 0, rfl⟩, by rw [Hr.out]⟩
      have hd1 : ((B : Int) == (l.length : Int)) = false := by rw [beq_eq_false_iff_ne]; omega
      have hBlt : B < l.length := by omega
      obtain ⟨mb, hmb⟩ : ∃ mb, l[B]? = some mb := ⟨l[B], List.getElem?_eq_getElem hBlt⟩
      obtain ⟨bb, off, rfl, hcell⟩ := hS.cur.bs.at (by omega)
      have hcl := hcell B mb hmb
      have hM : mb.toNat < 256 := mb.toNat_lt
      obtain ⟨M, hMe⟩ : ∃ M, M = mb.toNat := ⟨_, rfl⟩
      have hr : readM l at_ = (restM l M ⟨B + 1, false⟩ []).map (fun ks => ⟨P, x, ks⟩) := by
        have := readM_rest H2.out.2 Hx.out.2.2 Hx.out.1 M ⟨B + 1, false⟩ (by rw [Hx.out.2.1, hMe]; unfold num1; simp [hmb])
        rw [this, HP.out]
      rw [← hMe] at hcl hM
      have hS5 := hS.setAt (B + 1) hBlt
      rw [show ((B + 1 : Nat) : Int) = (B : Int) + 1 from by omega] at hS5
      have hwB : IntKind.i64.wrap ((B : Int) + 1) = (B : Int) + 1 := IntWalk.i64_in _ (by omega)
      have HS := hid hS
      have Hr := hid hr
      clear hcell hmb hMe hr hend hS
      go_upto_region 17 with fail
      obtain ⟨W5, hW5⟩ : ∃ W5, W5 = wc.setCell ⟨R + 2, 1, none⟩ (.int .i64 ((B : Int) + 1)) := ⟨_, rfl⟩
      have hW5' : wc.setCell ⟨R + 1 + 1, 1, none⟩ (.int .i64 ((B : Int) + 1)) = W5 := hW5.symm
      rw [← hW5] at hS5
      rw [hW5']
      have H5 := hid hS5
      clear hW5 hW5' hS5 d0 d1 d2 df hcl hd1 hwB HS
      obtain ⟨RR, hRR⟩ : ∃ RR, RR = restM l M ⟨B + 1, false⟩ [] := ⟨_, rfl⟩
      rw [← hRR] at Hr
      have HRR := hid hRR
      clear hRR
      go_wp2_with fail
      go_loopw [12] (fun i wr => KidsR w R (R + 1) (R + 2) (some ⟨bb, off, none⟩) cap l x P M RR i wr) (fun i _ => M - (intOf i).toNat)
      case atStart => exact ⟨0, [], _, _, Nat.zero_le _, rfl, Nat.le_refl _, rfl, H5.out, by simp, HRR.out⟩
      case round =>
        obtain ⟨j, acc, s, kv, hj, rfl, hacc, hbad, hS, hne, hre⟩ := hrel
        have Hk := hid (And.intro hS (And.intro hbad (And.intro hne hre)))
        clear hS hbad hne hre
        by_cases hlt : j < M
        · have hltz : decide ((j : Int) < (M : Int)) = true := by simp; omega
          have hst := Hk.out.2.2.2
          rw [show M - j = (M - (j + 1)) + 1 from by omega, restM_ref l _ s acc Hk.out.2.1] at hst
          have Hst := hid hst
          clear hst
          go_wp2_with fail
          refine (ref_text_c _ (R + 2) _ cap l s Hk.out.1.cur).mono ?_
          rintro e w6 ⟨rfl, hc6, hg6⟩
          have h6 := Hk.out.1.call hc6 hg6
          obtain ⟨t, ht⟩ : ∃ t, t = (textRf l s).1 := ⟨_, rfl⟩
          obtain ⟨s6, hs6⟩ : ∃ s6, s6 = (textRf l s).2 := ⟨_, rfl⟩
          rw [← hs6] at h6
          rw [← ht]
          rw [← hs6, ← ht] at Hst
          have H6 := hid h6
          clear hc6 hg6 h6 hs6
          have Ht := hid ht
          clear ht
          go_upto_region 21 with fail
          have hba : Below w6.heap.size w6 (w6.alloc (.cells #[.string (mkS t), .int .i64 (-1)] 123)) := (Below.refl _ _).alloc (Nat.le_refl _) _
          have h7 := H6.out.below hba
          have hK : RowAt (w6.alloc (.cells #[.string (mkS t), .int .i64 (-1)] 123)) w6.heap.size 123 #[.string (mkS t), .int .i64 (-1)] := heap_alloc_new w6 _
          have hKc : R + 2 < w6.heap.size := H6.out.cur.row.lt
          have hKv : kv.ownBlock ≠ some w6.heap.size := fun h => Nat.lt_irrefl _ (World.ownsRow.lt H6.out.own _ h).2
          obtain ⟨K, hKe⟩ : ∃ K, K = w6.heap.size := ⟨_, rfl⟩
          obtain ⟨W7, hW7⟩ : ∃ W7, W7 = w6.alloc (.cells #[.string (mkS t), .int .i64 (-1)] 123) := ⟨_, rfl⟩
          rw [← hKe] at hK hKc hKv
          rw [← hW7] at h7 hK
          rw [← hKe, ← hW7]
          have H7 := hid (And.intro h7 (And.intro hK hKv))
          clear hba h7 hK hKv hKe hW7
          go_wp2_with fail
          refine (ref_number W7 (R + 2) _ cap l s6 H7.out.1.cur).mono ?_
          rintro e w8 ⟨rfl, hc8, hg8⟩
          have h8 := H7.out.1.call hc8 hg8
          have hK8 : RowAt w8 K 123 #[.string (mkS t), .int .i64 (-1)] := H7.out.2.1.grown hg8 (fun h => by have := Option.some.inj h; omega)
          have hto64 := numR_lt l s6
          obtain ⟨tv, htv⟩ : ∃ tv, tv = (numR l s6).1 := ⟨_, rfl⟩
          obtain ⟨s7, hs7⟩ : ∃ s7, s7 = (numR l s6).2 := ⟨_, rfl⟩
          rw [← hs7] at h8
          rw [← htv] at hto64 ⊢
          rw [← htv, ← hs7] at Hst
          have k0 : w8.cell? ⟨K, 0, none⟩ = some (.string (mkS t)) := cell_of_row w8 K 0 _ _ _ hK8
          have k1 : w8.cell? ⟨K, 1, none⟩ = some (.int .i64 (-1)) := cell_of_row w8 K 1 _ _ _ hK8
          have kf : ∀ i, w8.frozen? ⟨K, i, none⟩ = false := fun i => frozen_of_row w8 K i _ _ hK8
          have H8 := hid (And.intro h8 hK8)
          clear hc8 hg8 h8 hK8 htv hs7
          have hwl : IntKind.u64.wrap (l.length : Int) = (l.length : Int) := IntWalk.u64_in _ (by omega)
          go_upto_if 111 with fail
          go_cut [] from 97 to 149 (fun wx => NS w wx R (R + 1) (R + 2) (some ⟨bb, off, none⟩) cap l s7 x P kv acc ∧ RowAt wx K 123 #[.string (mkS t), .int .i64 (placeM tv l.length)])
          case first =>
            cases hto : decide (tv < l.length) with
            | true =>
              have hlt2 : tv < l.length := by simpa using hto
              have hp : placeM tv l.length = (tv : Int) := by unfold placeM; rw [if_neg (by omega)]
              have hwt : IntKind.i64.wrap (tv : Int) = (tv : Int) := IntWalk.i64_in _ (by omega)
              have Hp := hid hp
              clear hp hto hlt2
              go_wp2_with fail
              go_meet
              refine ⟨H8.out.1.far hKc H7.out.2.2 _, ?_⟩
              rw [Hp.out]
              unfold RowAt; rw [heap_setCell_same _ _ _ _ _ _ H8.out.2]; rfl
            | false =>
              have hlt2 : ¬ tv < l.length := by simpa using hto
              have hp : placeM tv l.length = -1 := by unfold placeM; rw [if_pos (by omega)]
              have Hp := hid hp
              clear hp hto hlt2
              go_wp2_with fail
              go_meet
              refine ⟨H8.out.1, ?_⟩
              rw [Hp.out]
              exact H8.out.2
          case rest =>
            obtain ⟨h9, hK9⟩ := hcut
            clear k0 k1 kf hwl hto64
            obtain ⟨d0, d1, d2, df⟩ := h9.curs
            have k0 : wc.cell? ⟨K, 0, none⟩ = some (.string (mkS t)) := cell_of_row wc K 0 _ _ _ hK9
            cases hb7 : s7.bad with
            | true =>
              rw [hb7] at d2
              have hrr : readM l at_ = none := by rw [Hr.out, Hst.out, if_pos (.inl hb7)]; rfl
              have Hrr := hid hrr
              clear hrr hb7 hK9
              obtain ⟨⟨r0, r1, r2, r3, r4, r5, r6, r7, r8⟩, rf, z0, z1, z2, z3, z4, z5, z6, z7, z8⟩ := h9.zeros
              have H9 := hid h9
              clear h9
              go_wp2_with fail
              refine bodyPost_ret (v := .tuple #[.agg nodeZ, .bool false]) (by simp [results, Tryz.results51, go_sem, r0, r1, r2, r3, r4, r5, r6, r7, r8]) rfl ?_
              exact ⟨_, false, rfl, ⟨H9.out.low.os, H9.out.low.tape, H9.out.low.output, H9.out.low.size, H9.out.low.block⟩, Exp.zero, false, .slice none 0 0, rfl, ⟨none, 0, 0, rfl⟩, by rw [Hrr.out]⟩
            | false =>
              rw [hb7] at d2
              have Hb7 := hid hb7
              clear hb7
              cases t with
              | nil =>
                have hrr : readM l at_ = none := by rw [Hr.out, Hst.out, if_pos (.inr rfl)]; rfl
                have Hrr := hid hrr
                clear hrr hK9
                obtain ⟨⟨r0, r1, r2, r3, r4, r5, r6, r7, r8⟩, rf, z0, z1, z2, z3, z4, z5, z6, z7, z8⟩ := h9.zeros
                have H9 := hid h9
                clear h9
                go_wp2_with fail
                refine bodyPost_ret (v := .tuple #[.agg nodeZ, .bool false]) (by simp [results, Tryz.results51, go_sem, r0, r1, r2, r3, r4, r5, r6, r7, r8]) rfl ?_
                exact ⟨_, false, rfl, ⟨H9.out.low.os, H9.out.low.tape, H9.out.low.output, H9.out.low.size, H9.out.low.block⟩, Exp.zero, false, .slice none 0 0, rfl, ⟨none, 0, 0, rfl⟩, by rw [Hrr.out]⟩
              | cons b r =>
                have hst := Hst.out
                rw [if_neg (by simp [Hb7.out])] at hst
                have Hst2 := hid hst
                have H9 := hid (And.intro h9 hK9)
                clear hst h9 hK9
                obtain ⟨kp, kc, hkv⟩ := H9.out.1.form
                subst hkv
                have x8 : wc.cell? ⟨R + 1, 8, none⟩ = some (.slice kp acc.length kc) := cell_of_row wc (R + 1) 8 _ _ _ H9.out.1.row
                have xf : wc.frozen? ⟨R + 1, 8, none⟩ = false := frozen_of_row wc (R + 1) 8 _ _ H9.out.1.row
                go_wp2_with fail
                go_loopw [15] (fun i wr => InnerR wc acc b i wr) (fun i _ => acc.length - (intOf i).toNat)
                case atStart => exact ⟨0, 0, Nat.zero_le _, rfl, rfl, rfl⟩
                case round =>
                  obtain ⟨i, q, hi, rfl, rfl, ha⟩ := hrel
                  have Ha := hid ha.out
                  clear ha
                  by_cases hil : i < acc.length
                  · have hd1 : decide ((i : Int) < (acc.length : Int)) = true := by simp; omega
                    obtain ⟨kd, hkd⟩ : ∃ kd, acc[i]? = some kd := ⟨_, List.getElem?_eq_getElem hil⟩
                    obtain ⟨g, cp, hg, hglt, e0, e1⟩ := kidsRow_at H9.out.1.own hkd
                    cases hg
                    obtain ⟨b2, r2', hbr⟩ : ∃ b2 r2, kd.edge = b2 :: r2 := by
                      cases hke : kd.edge with
                      | nil => exact absurd hke (Hk.out.2.2.1 kd (List.mem_of_getElem? hkd))
                      | cons b2 r2 => exact ⟨b2, r2, rfl⟩
                    rw [hbr] at e0
                    have Hkd := hid (And.intro hkd hbr)
                    clear hkd hbr e1
                    have hz1 : 0 < (mkS (b2 :: r2')).size := by rw [mkS_size]; simp
                    have hz2 : 0 < (mkS (b :: r)).size := by rw [mkS_size]; simp
                    by_cases hbe : b2 = b
                    · have hq : ((b2.toNat : Int) == (b.toNat : Int)) = true := by rw [hbe]; simp
                      have hrr : readM l at_ = none := by
                        rw [Hr.out, Hst2.out, if_pos (List.any_eq_true.2 ⟨kd, List.mem_of_getElem? Hkd.out.1, by rw [Hkd.out.2, hbe]; simp⟩)]; rfl
                      have Hrr := hid hrr
                      have h9 := H9.out.1
                      clear hrr hbe
                      go_wp2_with fail
                      go_quiet (fail)
                      obtain ⟨⟨r0, r1, r2, r3, r4, r5, r6, r7, r8⟩, rf, z0, z1, z2, z3, z4, z5, z6, z7, z8⟩ := h9.zeros
                      have H10 := hid h9
                      clear h9
                      go_wp2_with fail
                      refine bodyPost_ret (v := .tuple #[.agg nodeZ, .bool false]) (by simp [results, Tryz.results51, go_sem, r0, r1, r2, r3, r4, r5, r6, r7, r8]) rfl ?_
                      exact ⟨_, false, rfl, ⟨H10.out.low.os, H10.out.low.tape, H10.out.low.output, H10.out.low.size, H10.out.low.block⟩, Exp.zero, false, .slice none 0 0, rfl, ⟨none, 0, 0, rfl⟩, by rw [Hrr.out]⟩
                    · have hq : ((b2.toNat : Int) == (b.toNat : Int)) = false := by
                        rw [beq_eq_false_iff_ne]; intro e; exact hbe (UInt8.toNat_inj.1 (by omega))
                      have hs : (acc.take (i + 1)).any (fun x => x.edge.head? == some b) = false := by
                        rw [any_snoc Hkd.out.1, Ha.out, Hkd.out.2]; simp [hbe]
                      have Hs := hid hs
                      clear hs hbe
                      go_wp2_with fail
                      go_quiet (fail)
                      go_wp2_with fail
                      go_roundw
                      case rel => exact ⟨i + 1, _, by omega, by go_num, rfl, Hs.out⟩
                      case measure => simp [intOf]; omega
                  · have hd1 : decide ((i : Int) < (acc.length : Int)) = false := by simp; omega
                    have hany : acc.any (fun x => x.edge.head? == some b) = false := by
                      have := Ha.out
                      rwa [show i = acc.length by omega, List.take_length] at this
                    have hst := Hst2.out
                    rw [if_neg (by simp only [List.head?_cons]; rw [hany]; simp)] at hst
                    have Hst3 := hid hst
                    have h10 := H9.out.1.heap (W' := wc.drewN q) rfl rfl rfl rfl
                    have hK10 : RowAt (wc.drewN q) K 123 #[.string (mkS (b :: r)), .int .i64 (placeM tv l.length)] := H9.out.2
                    obtain ⟨W10, hW10⟩ : ∃ W10, W10 = wc.drewN q := ⟨_, rfl⟩
                    rw [← hW10] at h10 hK10 ⊢
                    clear hW10 hst hany d0 d1 d2 df k0 x8 xf
                    have x8 : W10.cell? ⟨R + 1, 8, none⟩ = some (.slice kp acc.length kc) := cell_of_row W10 (R + 1) 8 _ _ _ h10.row
                    have k0 : W10.cell? ⟨K, 0, none⟩ = some (.string (mkS (b :: r))) := cell_of_row W10 K 0 _ _ _ hK10
                    have k1 : W10.cell? ⟨K, 1, none⟩ = some (.int .i64 (placeM tv l.length)) := cell_of_row W10 K 1 _ _ _ hK10
                    have hsz10 := h10.cur.row.lt
                    obtain ⟨i0, hi0, hz0, hz1, hz2⟩ := info_parts Tryz.infoKidR
                    have H10 := hid (And.intro h10 (And.intro hK10 (And.intro hi0 (And.intro hz0 (And.intro hz1 hz2)))))
                    clear h10 hK10 hi0 hz0 hz1 hz2
                    go_wp2_with (at_builtin; refine wpList_append_grew _ rfl _ _ _ _ rfl (R + 2 + 1) 123 i0 _ 2 24 Tryz.underlying117 H10.out.2.2.1 H10.out.2.2.2.1 H10.out.2.2.2.2.1 H10.out.2.2.2.2.2 rfl _ acc.length (kidCells acc) rfl (ownsRow_below H10.out.1.own ((Below.refl _ _).alloc (Nat.le_refl _) _)) _ 1 (KidM.mk (b :: r) (placeM tv l.length)).cells rfl (Src.laid _ Tryz.underlying117 (KidM.mk (b :: r) (placeM tv l.length)).cells 1 rfl (by simp [KidM.cells, Value.oneCell']) (0, 0) (by simp)) ?c3 ?c4 ?c5 ?_)
                    case c3 => exact Nat.le_trans (show acc.length + 1 ≤ 5000 by omega) (by decide)
                    case c4 => omega
                    case c5 => simp; omega
                    intro v1 W11 hl1 hg1
                    have hg1 : Grew W10 W11 _ v1 := Grew.under ((Below.refl _ _).alloc (Nat.le_refl _) _) hg1
                    obtain ⟨vp, vc, hv1⟩ := ownsRow_form hl1
                    subst hv1
                    have x8' : W11.cell? ⟨R + 1, 8, none⟩ = some (.slice kp acc.length kc) := hg1.cell x8 (H10.out.1.kn (by omega))
                    have xf' : W11.frozen? ⟨R + 1, 8, none⟩ = false := frozen_of_row W11 (R + 1) 8 _ _ ((hg1.block H10.out.1.row.lt (H10.out.1.kn (by omega))).trans H10.out.1.row)
                    have H11 := hid (H10.out.1.put (k := ⟨b :: r, placeM tv l.length⟩) H1.out.2 hg1 (by rw [kidCells_snoc, List.length_append]; exact hl1))
                    clear hl1 hg1 x8
                    go_wp2
                    go_roundw
                    case rel =>
                      refine ⟨j + 1, acc ++ [KidM.mk (b :: r) (placeM tv l.length)], s7, .slice vp (acc.length + 1) vc, by omega, by go_num, by simp; omega, Hb7.out, H11.out, ?_, Hst3.out⟩
                      intro k hk
                      rcases List.mem_append.1 hk with h1 | h1
                      · exact Hk.out.2.2.1 k h1
                      · simp at h1; subst h1; simp
                    case measure => simp [intOf]; omega
        · have hltz : decide ((j : Int) < (M : Int)) = false := by simp; omega
          have hrr : readM l at_ = some ⟨P, x, acc⟩ := by
            rw [Hr.out, Hk.out.2.2.2, show M - j = 0 by omega, restM_zero, Hk.out.2.1]; rfl
          obtain ⟨kp, kc, hkv⟩ := Hk.out.1.form
          subst hkv
          have q0 : wr.cell? ⟨R + 1, 0, none⟩ = some (.bool P) := cell_of_row wr (R + 1) 0 _ _ _ Hk.out.1.row
          have q1 : wr.cell? ⟨R + 1, 1, none⟩ = some (.string (mkS x.name)) := cell_of_row wr (R + 1) 1 _ _ _ Hk.out.1.row
          have q2 : wr.cell? ⟨R + 1, 2, none⟩ = some (.int .i64 x.kind) := cell_of_row wr (R + 1) 2 _ _ _ Hk.out.1.row
          have q3 : wr.cell? ⟨R + 1, 3, none⟩ = some (.bool x.weak) := cell_of_row wr (R + 1) 3 _ _ _ Hk.out.1.row
          have q4 : wr.cell? ⟨R + 1, 4, none⟩ = some (.int .u64 (x.value : Int)) := cell_of_row wr (R + 1) 4 _ _ _ Hk.out.1.row
          have q5 : wr.cell? ⟨R + 1, 5, none⟩ = some (.int .u64 (x.resolver : Int)) := cell_of_row wr (R + 1) 5 _ _ _ Hk.out.1.row
          have q6 : wr.cell? ⟨R + 1, 6, none⟩ = some (.int .u64 (x.ordinal : Int)) := cell_of_row wr (R + 1) 6 _ _ _ Hk.out.1.row
          have q7 : wr.cell? ⟨R + 1, 7, none⟩ = some (.string (mkS x.other)) := cell_of_row wr (R + 1) 7 _ _ _ Hk.out.1.row
          have q8 : wr.cell? ⟨R + 1, 8, none⟩ = some (.slice kp acc.length kc) := cell_of_row wr (R + 1) 8 _ _ _ Hk.out.1.row
          obtain ⟨⟨r0, r1, r2, r3, r4, r5, r6, r7, r8⟩, rf, -⟩ := Hk.out.1.zeros
          have H6 := hid Hk.out.1.ret
          have Hrr := hid hrr
          clear hrr
          go_wp2_with fail
          rw [show (((((((((wr.setCell ⟨R, 0, none⟩ (.bool P)).setCell ⟨R, 1, none⟩ (.string (mkS x.name))).setCell ⟨R, 2, none⟩ (.int .i64 x.kind)).setCell ⟨R, 3, none⟩ (.bool x.weak)).setCell ⟨R, 4, none⟩ (.int .u64 (x.value : Int))).setCell ⟨R, 5, none⟩ (.int .u64 (x.resolver : Int))).setCell ⟨R, 6, none⟩ (.int .u64 (x.ordinal : Int))).setCell ⟨R, 7, none⟩ (.string (mkS x.other))).setCell ⟨R, 8, none⟩ (.slice kp acc.length kc)) = putN wr R x P (.slice kp acc.length kc) from rfl]
          obtain ⟨W6, hW6⟩ : ∃ W6, W6 = putN wr R x P (.slice kp acc.length kc) := ⟨_, rfl⟩
          rw [← hW6] at H6 ⊢
          clear hW6 q0 q1 q2 q3 q4 q5 q6 q7 q8 r0 r1 r2 r3 r4 r5 r6 r7 r8 rf
          have y0 : W6.cell? ⟨R, 0, none⟩ = some (.bool P) := cell_of_row W6 R 0 _ _ _ H6.out.1
          have y1 : W6.cell? ⟨R, 1, none⟩ = some (.string (mkS x.name)) := cell_of_row W6 R 1 _ _ _ H6.out.1
          have y2 : W6.cell? ⟨R, 2, none⟩ = some (.int .i64 x.kind) := cell_of_row W6 R 2 _ _ _ H6.out.1
          have y3 : W6.cell? ⟨R, 3, none⟩ = some (.bool x.weak) := cell_of_row W6 R 3 _ _ _ H6.out.1
          have y4 : W6.cell? ⟨R, 4, none⟩ = some (.int .u64 (x.value : Int)) := cell_of_row W6 R 4 _ _ _ H6.out.1
          have y5 : W6.cell? ⟨R, 5, none⟩ = some (.int .u64 (x.resolver : Int)) := cell_of_row W6 R 5 _ _ _ H6.out.1
          have y6 : W6.cell? ⟨R, 6, none⟩ = some (.int .u64 (x.ordinal : Int)) := cell_of_row W6 R 6 _ _ _ H6.out.1
          have y7 : W6.cell? ⟨R, 7, none⟩ = some (.string (mkS x.other)) := cell_of_row W6 R 7 _ _ _ H6.out.1
          have y8 : W6.cell? ⟨R, 8, none⟩ = some (.slice kp acc.length kc) := cell_of_row W6 R 8 _ _ _ H6.out.1
          refine bodyPost_ret (v := .tuple #[.agg (nodeR x P (.slice kp acc.length kc)), .bool true]) (by simp [results, Tryz.results51, go_sem, nodeR, y0, y1, y2, y3, y4, y5, y6, y7, y8]) rfl ?_
          exact ⟨_, true, rfl, H6.out.2.1, x, P, .slice kp acc.length kc, rfl, ⟨_, _, _, rfl⟩, by rw [Hrr.out]; exact ⟨rfl, rfl, rfl, H6.out.2.2⟩⟩
end Go.Proofs.YthhjdkcnkdffcaaGreat
