/- What the reference says of a name: the walk. -/
import Derived.Test.YtipgcdpmkpjokaaGreatDoorZRfB
import Derived.Test.YtipgcdpmkpjokaaGreatDoorZFindB
import Derived.Deep.DeepCutAuto
import Derived.Deep.CutBlock
namespace Go.Proofs.YtipgcdpmkpjokaaGreatDoor
set_option linter.unusedSimpArgs false
set_option linter.unusedVariables false
open Go.RowKit

/-- What stands while it is said: the result's block X, the cursor's c, the export's S. -/
structure RS (w W : World) (X c S : Nat) (p : Option Addr) (cap : Nat) (l : List UInt8) (s : Cu) (vs : Array Value) : Prop where
  res : RowAt W X 28 Exp.zero.cells.toArray
  cur : RAt W c p cap l s
  say : RowAt W S 28 vs
  low : Below w.heap.size w W
  ord : w.heap.size ≤ X ∧ X < c ∧ c < S

section
variable {w W W' : World} {X c S : Nat} {p : Option Addr} {cap : Nat} {l : List UInt8} {s s' : Cu} {vs : Array Value}

theorem RS.call (h : RS w W X c S p cap l s vs) (hc : RAt W' c p cap l s') (hg : W.grownBy W' (some c)) : RS w W' X c S p cap l s' vs := by
  have ho := h.ord
  exact ⟨h.res.grown hg (fun e => by have := Option.some.inj e; omega), hc, h.say.grown hg (fun e => by have := Option.some.inj e; omega), h.low.grown hg h.low.size (fun j e => by have := Option.some.inj e; omega), ho⟩

theorem RAt.setFar (h : RAt W c p cap l s) {K i : Nat} (hK : c < K) (u : Value) : RAt (W.setCell ⟨K, i, none⟩ u) c p cap l s :=
  ⟨h.bs.of_block (fun j hj hlt => heap_setCell_other W _ j u (by simp; have := h.far j hj; omega)), h.far, h.le, h.row.other (by omega) u⟩

theorem RS.set (h : RS w W X c S p cap l s vs) (i : Nat) (u : Value) : RS w (W.setCell ⟨S, i, none⟩ u) X c S p cap l s (vs.setIfInBounds i u) := by
  have ho := h.ord
  refine ⟨h.res.other (by omega) u, h.cur.setFar ho.2.2 u, ?_, h.low.setCell (by show w.heap.size ≤ S; omega) u, ho⟩
  unfold RowAt; rw [heap_setCell_same _ _ _ _ _ _ h.say]
end

theorem numR_lt (l : List UInt8) (s : Cu) : (numR l s).1 < 2 ^ 64 := by
  unfold numR ulebR
  cases h : ulebM (l.drop s.at_) with
  | none => exact (by decide : (0 : Nat) < 2 ^ 64)
  | some q => exact (ulebM_lt h).1

/-- A block that bytes are read from is there. -/
theorem inBlk_lt {w : World} {v : Value} {l : List UInt8} (h : BS w v l) {j : Nat} (hj : inBlk v j) : j < w.heap.size := by
  obtain ⟨p, cap, rfl, h1, h2, h3⟩ := h
  have hpos : 0 < l.length := inBlk_pos (p := p) (c := cap) hj
  obtain ⟨b, off, rfl, hc⟩ := h3 (by intro e; rw [e] at hpos; exact absurd hpos (by simp))
  have h0 := hc 0 _ (List.getElem?_eq_getElem hpos)
  have := World.block_lt_of_cell? w _ h0
  have e : b = j := hj.2
  simp at this; omega

/-- An export written into a block, cell by cell. -/
def putE (W : World) (X : Nat) (x : Exp) : World := (((((((W.setCell ⟨X, 0, none⟩ (.string (mkS x.name))).setCell ⟨X, 1, none⟩ (.int .i64 x.kind)).setCell ⟨X, 2, none⟩ (.bool x.weak)).setCell ⟨X, 3, none⟩ (.int .u64 (x.value : Int))).setCell ⟨X, 4, none⟩ (.int .u64 (x.resolver : Int))).setCell ⟨X, 5, none⟩ (.int .u64 (x.ordinal : Int))).setCell ⟨X, 6, none⟩ (.string (mkS x.other)))

theorem putE_row {W : World} {X : Nat} {t : TypeId} {y : Exp} (x : Exp) (h : RowAt W X t y.cells.toArray) : RowAt (putE W X x) X t x.cells.toArray := by
  have step : ∀ {V : World} {vs : Array Value} (i : Nat) (u : Value), RowAt V X t vs → RowAt (V.setCell ⟨X, i, none⟩ u) X t (vs.setIfInBounds i u) := fun {V vs} i u hb => by
    unfold RowAt; rw [heap_setCell_same _ _ _ _ _ _ hb]
  unfold putE
  have h0 : RowAt _ X t #[.string (mkS x.name), .int .i64 y.kind, .bool y.weak, .int .u64 (y.value : Int), .int .u64 (y.resolver : Int), .int .u64 (y.ordinal : Int), .string (mkS y.other)] := step 0 (.string (mkS x.name)) h
  have h1 : RowAt _ X t #[.string (mkS x.name), .int .i64 x.kind, .bool y.weak, .int .u64 (y.value : Int), .int .u64 (y.resolver : Int), .int .u64 (y.ordinal : Int), .string (mkS y.other)] := step 1 (.int .i64 x.kind) h0
  have h2 : RowAt _ X t #[.string (mkS x.name), .int .i64 x.kind, .bool x.weak, .int .u64 (y.value : Int), .int .u64 (y.resolver : Int), .int .u64 (y.ordinal : Int), .string (mkS y.other)] := step 2 (.bool x.weak) h1
  have h3 : RowAt _ X t #[.string (mkS x.name), .int .i64 x.kind, .bool x.weak, .int .u64 (x.value : Int), .int .u64 (y.resolver : Int), .int .u64 (y.ordinal : Int), .string (mkS y.other)] := step 3 (.int .u64 (x.value : Int)) h2
  have h4 : RowAt _ X t #[.string (mkS x.name), .int .i64 x.kind, .bool x.weak, .int .u64 (x.value : Int), .int .u64 (x.resolver : Int), .int .u64 (y.ordinal : Int), .string (mkS y.other)] := step 4 (.int .u64 (x.resolver : Int)) h3
  have h5 : RowAt _ X t #[.string (mkS x.name), .int .i64 x.kind, .bool x.weak, .int .u64 (x.value : Int), .int .u64 (x.resolver : Int), .int .u64 (x.ordinal : Int), .string (mkS y.other)] := step 5 (.int .u64 (x.ordinal : Int)) h4
  exact step 6 (.string (mkS x.other)) h5

theorem putE_low {w W : World} {X : Nat} (x : Exp) (h : Below w.heap.size w W) (hX : w.heap.size ≤ X) : Below w.heap.size w (putE W X x) :=
  ((((((h.setCell (p := ⟨X, 0, none⟩) hX (.string (mkS x.name))).setCell (p := ⟨X, 1, none⟩) hX (.int .i64 x.kind)).setCell (p := ⟨X, 2, none⟩) hX (.bool x.weak)).setCell (p := ⟨X, 3, none⟩) hX (.int .u64 (x.value : Int))).setCell (p := ⟨X, 4, none⟩) hX (.int .u64 (x.resolver : Int))).setCell (p := ⟨X, 5, none⟩) hX (.int .u64 (x.ordinal : Int))).setCell (p := ⟨X, 6, none⟩) hX (.string (mkS x.other))

/-- What a call of says brings about. -/
def SaidEnd (w : World) (l : List UInt8) (e : Ending) (w' : World) : Prop :=
  ∃ x ok, e = .returned (.tuple #[.agg x.cells.toArray, .bool ok]) ∧ Below w.heap.size w w' ∧ ok = ((saysRf l).2.1 && (saysRf l).2.2.at_ == l.length) ∧ (ok = true → x = (saysRf l).1)

/-- What stands behind the switch. -/
def SaidRf (w W : World) (X S : Nat) (p : Option Addr) (cap : Nat) (l : List UInt8) (fl : Nat) (s1 : Cu) : Prop :=
  ∃ x s2, RS w W X (X + 1) S p cap l s2 x.cells.toArray ∧ saysRf1 l fl s1 = (x, !s2.bad, s2)

theorem saysRf1_0 {l : List UInt8} {fl : Nat} {s : Cu} {wk : Bool} (hw : wk = (fl / 4 % 2 == 1)) (h : bareF fl = 0) : saysRf1 l fl s = (⟨[], 1, wk, (numR l s).1, 0, 0, []⟩, !(numR l s).2.bad, (numR l s).2) := by
  unfold saysRf1; rw [if_neg (by omega), if_pos h, hw]
theorem saysRf1_2 {l : List UInt8} {fl : Nat} {s : Cu} {wk : Bool} (hw : wk = (fl / 4 % 2 == 1)) (h : bareF fl = 2) : saysRf1 l fl s = (⟨[], 2, wk, (numR l s).1, 0, 0, []⟩, !(numR l s).2.bad, (numR l s).2) := by
  unfold saysRf1; rw [if_neg (by omega), if_neg (by omega), if_pos h, hw]
theorem saysRf1_8 {l : List UInt8} {fl : Nat} {s : Cu} {wk : Bool} (hw : wk = (fl / 4 % 2 == 1)) (h : bareF fl = 8) : saysRf1 l fl s = (⟨[], 3, wk, 0, 0, (numR l s).1, (textRf l (numR l s).2).1⟩, !(textRf l (numR l s).2).2.bad, (textRf l (numR l s).2).2) := by
  unfold saysRf1; rw [if_pos h, hw]
theorem saysRf1_16 {l : List UInt8} {fl : Nat} {s : Cu} {wk : Bool} (hw : wk = (fl / 4 % 2 == 1)) (h : bareF fl = 16) : saysRf1 l fl s = (⟨[], 4, wk, (numR l s).1, (numR l (numR l s).2).1, 0, []⟩, !(numR l (numR l s).2).2.bad, (numR l (numR l s).2).2) := by
  unfold saysRf1; rw [if_neg (by omega), if_neg (by omega), if_neg (by omega), if_pos h, hw]
theorem saysRf1_no {l : List UInt8} {fl : Nat} {s : Cu} (h8 : bareF fl ≠ 8) (h0 : bareF fl ≠ 0) (h2 : bareF fl ≠ 2) (h16 : bareF fl ≠ 16) : (saysRf1 l fl s).2.1 = false := by
  unfold saysRf1; rw [if_neg h8, if_neg h0, if_neg h2, if_neg h16]

set_option maxHeartbeats 1000000 in
set_option maxRecDepth 4000 in
theorem ref_says (w : World) (p : Option Addr) (n cap : Nat) (l : List UInt8) (h : BS w (.slice p n cap) l) :
    Calls Tryz.prog 83 #[.slice p n cap] w (SaidEnd w l) := by
  obtain rfl := h.len
  have hcp := h.cap
  have H := hid h
  clear h
  go_enter Tryz.func83, Tryz.ntmps83
  go_wp2_with fail
  obtain ⟨w1, hw1⟩ : ∃ w1, w1 = ((w.alloc (.cells Exp.zero.cells.toArray 28)).alloc (.cells #[.slice p l.length cap, .int .i64 0, .bool false] 136)) := ⟨_, rfl⟩
  have hb0 : Below w.heap.size w (w.alloc (.cells Exp.zero.cells.toArray 28)) := (Below.refl _ _).alloc (Nat.le_refl _) _
  have hs0 : (w.alloc (.cells Exp.zero.cells.toArray 28)).heap.size = w.heap.size + 1 := by simp
  have hb1 : Below (w.heap.size + 1) (w.alloc (.cells Exp.zero.cells.toArray 28)) w1 := by rw [hw1]; exact (Below.refl _ _).alloc (by omega) _
  have hb : Below w.heap.size w w1 := hb0.trans (hb1.mono (by omega))
  have hX : RowAt w1 w.heap.size 28 Exp.zero.cells.toArray := (hb1.block w.heap.size (by omega)).trans (heap_alloc_new w _)
  have hC : RAt w1 (w.heap.size + 1) p cap l ⟨0, false⟩ := by
    refine ⟨H.out.below hb, fun j hj => ?_, Nat.zero_le _, ?_⟩
    · have := inBlk_lt H.out hj; omega
    · rw [hw1, ← hs0]; exact heap_alloc_new _ _
  rw [show (w.alloc (.cells #[.string ⟨#[]⟩, .int .i64 0, .bool false, .int .u64 0, .int .u64 0, .int .u64 0, .string ⟨#[]⟩] 28)).alloc (.cells #[.slice p l.length cap, .int .i64 0, .bool false] 136) = w1 from hw1.symm]
  refine (ref_number w1 _ p cap l ⟨0, false⟩ hC).mono ?_
  rintro e w2 ⟨rfl, hC2, hg2⟩
  have hX2 := hX.grown hg2 (fun e => by have := Option.some.inj e; omega)
  have hb2 : Below w.heap.size w w2 := hb.grown hg2 hb.size (fun j e => by have := Option.some.inj e; omega)
  have H1 := hid (And.intro hX2 (And.intro hC2 hb2))
  clear hw1 hb0 hs0 hb1 hb hX hC hg2 hX2 hC2 hb2
  obtain ⟨X, hXe⟩ : ∃ X, X = w.heap.size := ⟨_, rfl⟩
  rw [← hXe] at H1 ⊢
  obtain ⟨fl, hfl⟩ : ∃ fl, fl = (numR l ⟨0, false⟩).1 := ⟨_, rfl⟩
  rw [← hfl]
  have Hfl := hid (And.intro hXe hfl)
  clear hXe
  have hfl64 : fl < 2 ^ 64 := by rw [hfl]; exact numR_lt l _
  clear hfl
  have hq : IntKind.u64.wrap ((fl : Int) / 4) = ((fl / 4 : Nat) : Int) := by rw [show (fl : Int) / 4 = ((fl / 4 : Nat) : Int) by omega]; exact IntWalk.u64_in _ (by omega)
  have hr : Int.tmod ((fl / 4 : Nat) : Int) 2 = ((fl / 4 % 2 : Nat) : Int) := rfl
  obtain ⟨wk, hwk⟩ : ∃ wk, wk = (fl / 4 % 2 == 1) := ⟨_, rfl⟩
  have hb : (((fl / 4 % 2 : Nat) : Int) == 1) = wk := by rw [hwk, Bool.eq_iff_iff, beq_iff_eq, beq_iff_eq]; omega
  have hb2 : ((fl : Int) / 4 % 2 == 1) = wk := hb
  obtain ⟨F, hF⟩ : ∃ F, F = bareF fl := ⟨_, rfl⟩
  have HF := hid (And.intro hF hwk)
  have Hl := hid hfl64
  clear hF hwk hfl64
  go_upto_if 18 with fail
  have hba : Below w2.heap.size w2 (w2.alloc (.cells #[.string ⟨#[]⟩, .int .i64 0, .bool wk, .int .u64 0, .int .u64 0, .int .u64 0, .string ⟨#[]⟩] 28)) := (Below.refl _ _).alloc (Nat.le_refl _) _
  have hS : RS w (w2.alloc (.cells #[.string ⟨#[]⟩, .int .i64 0, .bool wk, .int .u64 0, .int .u64 0, .int .u64 0, .string ⟨#[]⟩] 28)) X (X + 1) w2.heap.size p cap l (numR l ⟨0, false⟩).2 #[.string ⟨#[]⟩, .int .i64 0, .bool wk, .int .u64 0, .int .u64 0, .int .u64 0, .string ⟨#[]⟩] := by
    have hc := H1.out.2.1
    have hlt := hc.row.lt
    have hx := Hfl.out.1
    have hlow : Below w.heap.size w w2 := by rw [← hx]; exact H1.out.2.2
    exact ⟨(hba.block _ H1.out.1.lt).trans H1.out.1, ⟨hc.bs.below hba, hc.far, hc.le, (hba.block _ hlt).trans hc.row⟩, heap_alloc_new w2 _, hlow.trans (hba.mono hlow.size), by omega, by omega, hlt⟩
  obtain ⟨S, hSe⟩ : ∃ S, S = w2.heap.size := ⟨_, rfl⟩
  obtain ⟨W, hW⟩ : ∃ W, W = w2.alloc (.cells #[.string ⟨#[]⟩, .int .i64 0, .bool wk, .int .u64 0, .int .u64 0, .int .u64 0, .string ⟨#[]⟩] 28) := ⟨_, rfl⟩
  rw [← hSe, ← hW] at hS
  rw [← hSe, ← hW]
  clear hSe hW hba H1 hq hr hb hb2
  obtain ⟨s1, hs1⟩ : ∃ s1, s1 = (numR l ⟨0, false⟩).2 := ⟨_, rfl⟩
  rw [← hs1] at hS
  have Hs1 := hid (And.intro hs1 hS)
  clear hs1 hS
  go_cut [5] (fun v wx => v = .int .u64 (F : Int) ∧ wx = W)
  case first =>
    cases hk : wk with
    | true =>
      have h4 : fl / 4 % 2 = 1 := by have := HF.out.2; rw [hk] at this; simpa using this.symm
      have hF4 : F + 4 = fl := by rw [HF.out.1]; unfold bareF; rw [if_pos h4]; omega
      have hl := Hl.out
      have hsub : IntKind.u64.wrap ((fl : Int) - 4) = (F : Int) := by rw [show (fl : Int) - 4 = ((F : Nat) : Int) by omega]; exact IntWalk.u64_in _ (by omega)
      clear h4 hF4 hl hk
      go_wp2_with fail
      go_meet
      exact ⟨rfl, rfl⟩
    | false =>
      have h4 : ¬ fl / 4 % 2 = 1 := by have := HF.out.2; rw [hk] at this; simpa using this.symm
      have hF4 : fl = F := by rw [HF.out.1]; unfold bareF; rw [if_neg h4]
      have Hq := hid hF4
      clear h4 hF4 hk
      go_wp2_with fail
      go_meet
      exact ⟨by rw [Hq.out], rfl⟩
  case rest =>
    obtain ⟨rfl, rfl⟩ := hcut
    go_upto_block 0 with fail
    go_cut [] (fun wx => SaidRf w wx X S p cap l fl s1)
    case first =>
      have hS := Hs1.out.2
      have s1c : wc.cell? ⟨S, 1, none⟩ = some (.int .i64 0) := cell_of_row wc S 1 _ _ _ hS.say
      have s1f : wc.frozen? ⟨S, 1, none⟩ = false := frozen_of_row wc S 1 _ _ hS.say
      clear hS
      by_cases k0 : F = 0
      · have b0 : ((F : Int) == 0) = true := by rw [beq_iff_eq]; omega
        have Hk := hid k0
        clear k0
        go_upto_region 10 with fail
        obtain ⟨w3, hW3⟩ : ∃ w3, w3 = wc.setCell ⟨S, 1, none⟩ (.int .i64 1) := ⟨_, rfl⟩
        have h3 := Hs1.out.2.set 1 (.int .i64 1)
        rw [← hW3] at h3 ⊢
        have H3 := hid h3
        clear hW3 h3 s1c s1f
        go_wp2_with fail
        refine (ref_number w3 (X + 1) p cap l s1 H3.out.cur).mono ?_
        rintro e w4 ⟨rfl, hc4, hg4⟩
        have h4 := H3.out.call hc4 hg4
        have s3c : w4.cell? ⟨S, 3, none⟩ = some (.int .u64 0) := cell_of_row w4 S 3 _ _ _ h4.say
        have s3f : w4.frozen? ⟨S, 3, none⟩ = false := frozen_of_row w4 S 3 _ _ h4.say
        have H4 := hid h4
        clear hc4 hg4 h4
        go_wp2_with fail
        go_meet
        have h := H4.out.set 3 (.int .u64 ((numR l s1).1 : Int))
        exact ⟨_, _, h, saysRf1_0 HF.out.2 (by rw [← HF.out.1]; exact Hk.out)⟩
      have b0 : ((F : Int) == 0) = false := by rw [beq_eq_false_iff_ne]; omega
      by_cases k2 : F = 2
      · have b2 : ((F : Int) == 2) = true := by rw [beq_iff_eq]; omega
        have Hk := hid k2
        clear k0 k2
        go_upto_region 13 with fail
        obtain ⟨w3, hW3⟩ : ∃ w3, w3 = wc.setCell ⟨S, 1, none⟩ (.int .i64 2) := ⟨_, rfl⟩
        have h3 := Hs1.out.2.set 1 (.int .i64 2)
        rw [← hW3] at h3 ⊢
        have H3 := hid h3
        clear hW3 h3 s1c s1f
        go_wp2_with fail
        refine (ref_number w3 (X + 1) p cap l s1 H3.out.cur).mono ?_
        rintro e w4 ⟨rfl, hc4, hg4⟩
        have h4 := H3.out.call hc4 hg4
        have s3c : w4.cell? ⟨S, 3, none⟩ = some (.int .u64 0) := cell_of_row w4 S 3 _ _ _ h4.say
        have s3f : w4.frozen? ⟨S, 3, none⟩ = false := frozen_of_row w4 S 3 _ _ h4.say
        have H4 := hid h4
        clear hc4 hg4 h4
        go_wp2_with fail
        go_meet
        have h := H4.out.set 3 (.int .u64 ((numR l s1).1 : Int))
        exact ⟨_, _, h, saysRf1_2 HF.out.2 (by rw [← HF.out.1]; exact Hk.out)⟩
      have b2 : ((F : Int) == 2) = false := by rw [beq_eq_false_iff_ne]; omega
      by_cases k8 : F = 8
      · have b8 : ((F : Int) == 8) = true := by rw [beq_iff_eq]; omega
        have Hk := hid k8
        clear k0 k2 k8
        go_upto_region 16 with fail
        obtain ⟨w3, hW3⟩ : ∃ w3, w3 = wc.setCell ⟨S, 1, none⟩ (.int .i64 3) := ⟨_, rfl⟩
        have h3 := Hs1.out.2.set 1 (.int .i64 3)
        rw [← hW3] at h3 ⊢
        have H3 := hid h3
        clear hW3 h3 s1c s1f
        go_wp2_with fail
        refine (ref_number w3 (X + 1) p cap l s1 H3.out.cur).mono ?_
        rintro e w4 ⟨rfl, hc4, hg4⟩
        have h4 := H3.out.call hc4 hg4
        have s5c : w4.cell? ⟨S, 5, none⟩ = some (.int .u64 0) := cell_of_row w4 S 5 _ _ _ h4.say
        have s5f : w4.frozen? ⟨S, 5, none⟩ = false := frozen_of_row w4 S 5 _ _ h4.say
        have H4 := hid h4
        clear hc4 hg4 h4
        go_upto_region 17 with fail
        have h5 := H4.out.set 5 (.int .u64 ((numR l s1).1 : Int))
        obtain ⟨W5, hW5⟩ : ∃ W5, W5 = w4.setCell ⟨S, 5, none⟩ (.int .u64 ((numR l s1).1 : Int)) := ⟨_, rfl⟩
        rw [← hW5] at h5 ⊢
        have H5 := hid h5
        clear hW5 h5 s5c s5f
        go_wp2_with fail
        refine (ref_text_c W5 (X + 1) p cap l _ H5.out.cur).mono ?_
        rintro e w6 ⟨rfl, hc6, hg6⟩
        have h6 := H5.out.call hc6 hg6
        have s6c : w6.cell? ⟨S, 6, none⟩ = some (.string ⟨#[]⟩) := cell_of_row w6 S 6 _ _ _ h6.say
        have s6f : w6.frozen? ⟨S, 6, none⟩ = false := frozen_of_row w6 S 6 _ _ h6.say
        have H6 := hid h6
        clear hc6 hg6 h6
        go_wp2_with fail
        go_meet
        have h := H6.out.set 6 (.string (mkS (textRf l (numR l s1).2).1))
        exact ⟨_, _, h, saysRf1_8 HF.out.2 (by rw [← HF.out.1]; exact Hk.out)⟩
      have b8 : ((F : Int) == 8) = false := by rw [beq_eq_false_iff_ne]; omega
      by_cases k16 : F = 16
      · have b16 : ((F : Int) == 16) = true := by rw [beq_iff_eq]; omega
        have Hk := hid k16
        clear k0 k2 k8 k16
        go_upto_region 20 with fail
        obtain ⟨w3, hW3⟩ : ∃ w3, w3 = wc.setCell ⟨S, 1, none⟩ (.int .i64 4) := ⟨_, rfl⟩
        have h3 := Hs1.out.2.set 1 (.int .i64 4)
        rw [← hW3] at h3 ⊢
        have H3 := hid h3
        clear hW3 h3 s1c s1f
        go_wp2_with fail
        refine (ref_number w3 (X + 1) p cap l s1 H3.out.cur).mono ?_
        rintro e w4 ⟨rfl, hc4, hg4⟩
        have h4 := H3.out.call hc4 hg4
        have s3c : w4.cell? ⟨S, 3, none⟩ = some (.int .u64 0) := cell_of_row w4 S 3 _ _ _ h4.say
        have s3f : w4.frozen? ⟨S, 3, none⟩ = false := frozen_of_row w4 S 3 _ _ h4.say
        have H4 := hid h4
        clear hc4 hg4 h4
        go_upto_region 21 with fail
        have h5 := H4.out.set 3 (.int .u64 ((numR l s1).1 : Int))
        obtain ⟨W5, hW5⟩ : ∃ W5, W5 = w4.setCell ⟨S, 3, none⟩ (.int .u64 ((numR l s1).1 : Int)) := ⟨_, rfl⟩
        rw [← hW5] at h5 ⊢
        have H5 := hid h5
        clear hW5 h5 s3c s3f
        go_wp2_with fail
        refine (ref_number W5 (X + 1) p cap l _ H5.out.cur).mono ?_
        rintro e w6 ⟨rfl, hc6, hg6⟩
        have h6 := H5.out.call hc6 hg6
        have s6c : w6.cell? ⟨S, 4, none⟩ = some (.int .u64 0) := cell_of_row w6 S 4 _ _ _ h6.say
        have s6f : w6.frozen? ⟨S, 4, none⟩ = false := frozen_of_row w6 S 4 _ _ h6.say
        have H6 := hid h6
        clear hc6 hg6 h6
        go_wp2_with fail
        go_meet
        have h := H6.out.set 4 (.int .u64 ((numR l (numR l s1).2).1 : Int))
        exact ⟨_, _, h, saysRf1_16 HF.out.2 (by rw [← HF.out.1]; exact Hk.out)⟩
      have b16 : ((F : Int) == 16) = false := by rw [beq_eq_false_iff_ne]; omega
      have hno : (saysRf l).2.1 = false := by
        unfold saysRf
        rw [← Hfl.out.2, ← Hs1.out.1]
        have hf := HF.out.1
        exact saysRf1_no (by rw [← hf]; exact k8) (by rw [← hf]; exact k0) (by rw [← hf]; exact k2) (by rw [← hf]; exact k16)
      have hS := Hs1.out.2
      have x0 : wc.cell? ⟨X, 0, none⟩ = some (.string ⟨#[]⟩) := cell_of_row wc X 0 _ _ _ hS.res
      have x1 : wc.cell? ⟨X, 1, none⟩ = some (.int .i64 0) := cell_of_row wc X 1 _ _ _ hS.res
      have x2 : wc.cell? ⟨X, 2, none⟩ = some (.bool false) := cell_of_row wc X 2 _ _ _ hS.res
      have x3 : wc.cell? ⟨X, 3, none⟩ = some (.int .u64 0) := cell_of_row wc X 3 _ _ _ hS.res
      have x4 : wc.cell? ⟨X, 4, none⟩ = some (.int .u64 0) := cell_of_row wc X 4 _ _ _ hS.res
      have x5 : wc.cell? ⟨X, 5, none⟩ = some (.int .u64 0) := cell_of_row wc X 5 _ _ _ hS.res
      have x6 : wc.cell? ⟨X, 6, none⟩ = some (.string ⟨#[]⟩) := cell_of_row wc X 6 _ _ _ hS.res
      have xf : ∀ i, wc.frozen? ⟨X, i, none⟩ = false := fun i => frozen_of_row wc X i _ _ hS.res
      have z0 : wc.setCell ⟨X, 0, none⟩ (.string ⟨#[]⟩) = wc := setCell_self hS.res 0 _ rfl
      have z1 : wc.setCell ⟨X, 1, none⟩ (.int .i64 0) = wc := setCell_self hS.res 1 _ rfl
      have z2 : wc.setCell ⟨X, 2, none⟩ (.bool false) = wc := setCell_self hS.res 2 _ rfl
      have z3 : wc.setCell ⟨X, 3, none⟩ (.int .u64 0) = wc := setCell_self hS.res 3 _ rfl
      have z4 : wc.setCell ⟨X, 4, none⟩ (.int .u64 0) = wc := setCell_self hS.res 4 _ rfl
      have z5 : wc.setCell ⟨X, 5, none⟩ (.int .u64 0) = wc := setCell_self hS.res 5 _ rfl
      have z6 : wc.setCell ⟨X, 6, none⟩ (.string ⟨#[]⟩) = wc := setCell_self hS.res 6 _ rfl
      have Hno := hid hno
      clear hno hS s1c s1f k0 k2 k8 k16
      go_wp2_with fail
      refine bodyPost_ret (v := .tuple #[.agg Exp.zero.cells.toArray, .bool false]) (by simp [results, Tryz.results83, go_sem, Exp.cells, Exp.zero, mkS, x0, x1, x2, x3, x4, x5, x6]) rfl ?_
      exact ⟨Exp.zero, false, rfl, Hs1.out.2.low, by rw [Hno.out]; rfl, fun h => by cases h⟩
    case rest =>
      obtain ⟨x, s2, hS, heq⟩ := hcut
      go_upto_region 22 with fail
      have hR : saysRf l = (x, !s2.bad, s2) := by
        unfold saysRf
        rw [← Hfl.out.2, ← Hs1.out.1]; exact heq
      obtain ⟨k2, bad2⟩ := s2
      have q0 : wc.cell? ⟨S, 0, none⟩ = some (.string (mkS x.name)) := cell_of_row wc S 0 _ _ _ hS.say
      have q1 : wc.cell? ⟨S, 1, none⟩ = some (.int .i64 x.kind) := cell_of_row wc S 1 _ _ _ hS.say
      have q2 : wc.cell? ⟨S, 2, none⟩ = some (.bool x.weak) := cell_of_row wc S 2 _ _ _ hS.say
      have q3 : wc.cell? ⟨S, 3, none⟩ = some (.int .u64 (x.value : Int)) := cell_of_row wc S 3 _ _ _ hS.say
      have q4 : wc.cell? ⟨S, 4, none⟩ = some (.int .u64 (x.resolver : Int)) := cell_of_row wc S 4 _ _ _ hS.say
      have q5 : wc.cell? ⟨S, 5, none⟩ = some (.int .u64 (x.ordinal : Int)) := cell_of_row wc S 5 _ _ _ hS.say
      have q6 : wc.cell? ⟨S, 6, none⟩ = some (.string (mkS x.other)) := cell_of_row wc S 6 _ _ _ hS.say
      have x0 : wc.cell? ⟨X, 0, none⟩ = some (.string ⟨#[]⟩) := cell_of_row wc X 0 _ _ _ hS.res
      have x1 : wc.cell? ⟨X, 1, none⟩ = some (.int .i64 0) := cell_of_row wc X 1 _ _ _ hS.res
      have x2 : wc.cell? ⟨X, 2, none⟩ = some (.bool false) := cell_of_row wc X 2 _ _ _ hS.res
      have x3 : wc.cell? ⟨X, 3, none⟩ = some (.int .u64 0) := cell_of_row wc X 3 _ _ _ hS.res
      have x4 : wc.cell? ⟨X, 4, none⟩ = some (.int .u64 0) := cell_of_row wc X 4 _ _ _ hS.res
      have x5 : wc.cell? ⟨X, 5, none⟩ = some (.int .u64 0) := cell_of_row wc X 5 _ _ _ hS.res
      have x6 : wc.cell? ⟨X, 6, none⟩ = some (.string ⟨#[]⟩) := cell_of_row wc X 6 _ _ _ hS.res
      have xf : ∀ i, wc.frozen? ⟨X, i, none⟩ = false := fun i => frozen_of_row wc X i _ _ hS.res
      have d1 : wc.cell? ⟨X + 1, 1, none⟩ = some (.int .i64 (k2 : Nat)) := cell_of_row wc (X + 1) 1 _ _ _ hS.cur.row
      have d2 : wc.cell? ⟨X + 1, 2, none⟩ = some (.bool bad2) := cell_of_row wc (X + 1) 2 _ _ _ hS.cur.row
      have hlow : Below w.heap.size w (putE wc X x) := putE_low x hS.low hS.ord.1
      have H5 := hid (And.intro hlow (And.intro hR (putE_row (y := Exp.zero) x hS.res)))
      clear hS heq hR hlow
      cases bad2 with
      | true =>
        first | go_region | fail "region"
        all_goals
          rw [show (((((((wc.setCell ⟨X, 0, none⟩ (.string (mkS x.name))).setCell ⟨X, 1, none⟩ (.int .i64 x.kind)).setCell ⟨X, 2, none⟩ (.bool x.weak)).setCell ⟨X, 3, none⟩ (.int .u64 (x.value : Int))).setCell ⟨X, 4, none⟩ (.int .u64 (x.resolver : Int))).setCell ⟨X, 5, none⟩ (.int .u64 (x.ordinal : Int))).setCell ⟨X, 6, none⟩ (.string (mkS x.other))) = putE wc X x from rfl]
          obtain ⟨W6, hW6⟩ : ∃ W6, W6 = putE wc X x := ⟨_, rfl⟩
          rw [← hW6] at H5 ⊢
          clear hW6 x0 x1 x2 x3 x4 x5 x6 xf q0 q1 q2 q3 q4 q5 q6 d1 d2
          have y0 : W6.cell? ⟨X, 0, none⟩ = some (.string (mkS x.name)) := cell_of_row W6 X 0 _ _ _ H5.out.2.2
          have y1 : W6.cell? ⟨X, 1, none⟩ = some (.int .i64 x.kind) := cell_of_row W6 X 1 _ _ _ H5.out.2.2
          have y2 : W6.cell? ⟨X, 2, none⟩ = some (.bool x.weak) := cell_of_row W6 X 2 _ _ _ H5.out.2.2
          have y3 : W6.cell? ⟨X, 3, none⟩ = some (.int .u64 (x.value : Int)) := cell_of_row W6 X 3 _ _ _ H5.out.2.2
          have y4 : W6.cell? ⟨X, 4, none⟩ = some (.int .u64 (x.resolver : Int)) := cell_of_row W6 X 4 _ _ _ H5.out.2.2
          have y5 : W6.cell? ⟨X, 5, none⟩ = some (.int .u64 (x.ordinal : Int)) := cell_of_row W6 X 5 _ _ _ H5.out.2.2
          have y6 : W6.cell? ⟨X, 6, none⟩ = some (.string (mkS x.other)) := cell_of_row W6 X 6 _ _ _ H5.out.2.2
          go_wp2_with fail
          refine bodyPost_ret (v := .tuple #[.agg x.cells.toArray, .bool false]) (by simp [results, Tryz.results83, go_sem, Exp.cells, y0, y1, y2, y3, y4, y5, y6]) rfl ?_
          exact ⟨x, false, rfl, ⟨H5.out.1.os, H5.out.1.tape, H5.out.1.output, H5.out.1.size, H5.out.1.block⟩, by rw [H5.out.2.1]; rfl, fun h => by cases h⟩
      | false =>
        obtain ⟨E, hE⟩ : ∃ E, E = (k2 == l.length) := ⟨_, rfl⟩
        have hE2 : ((k2 : Int) == (l.length : Int)) = E := by rw [hE, Bool.eq_iff_iff, beq_iff_eq, beq_iff_eq]; omega
        have HE := hid hE
        clear hE
        first | go_region | fail "region"
        all_goals
          rw [show (((((((wc.setCell ⟨X, 0, none⟩ (.string (mkS x.name))).setCell ⟨X, 1, none⟩ (.int .i64 x.kind)).setCell ⟨X, 2, none⟩ (.bool x.weak)).setCell ⟨X, 3, none⟩ (.int .u64 (x.value : Int))).setCell ⟨X, 4, none⟩ (.int .u64 (x.resolver : Int))).setCell ⟨X, 5, none⟩ (.int .u64 (x.ordinal : Int))).setCell ⟨X, 6, none⟩ (.string (mkS x.other))) = putE wc X x from rfl]
          obtain ⟨W6, hW6⟩ : ∃ W6, W6 = putE wc X x := ⟨_, rfl⟩
          rw [← hW6] at H5 ⊢
          clear hW6 x0 x1 x2 x3 x4 x5 x6 xf q0 q1 q2 q3 q4 q5 q6 d1 d2
          have y0 : W6.cell? ⟨X, 0, none⟩ = some (.string (mkS x.name)) := cell_of_row W6 X 0 _ _ _ H5.out.2.2
          have y1 : W6.cell? ⟨X, 1, none⟩ = some (.int .i64 x.kind) := cell_of_row W6 X 1 _ _ _ H5.out.2.2
          have y2 : W6.cell? ⟨X, 2, none⟩ = some (.bool x.weak) := cell_of_row W6 X 2 _ _ _ H5.out.2.2
          have y3 : W6.cell? ⟨X, 3, none⟩ = some (.int .u64 (x.value : Int)) := cell_of_row W6 X 3 _ _ _ H5.out.2.2
          have y4 : W6.cell? ⟨X, 4, none⟩ = some (.int .u64 (x.resolver : Int)) := cell_of_row W6 X 4 _ _ _ H5.out.2.2
          have y5 : W6.cell? ⟨X, 5, none⟩ = some (.int .u64 (x.ordinal : Int)) := cell_of_row W6 X 5 _ _ _ H5.out.2.2
          have y6 : W6.cell? ⟨X, 6, none⟩ = some (.string (mkS x.other)) := cell_of_row W6 X 6 _ _ _ H5.out.2.2
          go_wp2_with fail
          refine bodyPost_ret (v := .tuple #[.agg x.cells.toArray, .bool E]) (by simp [results, Tryz.results83, go_sem, Exp.cells, y0, y1, y2, y3, y4, y5, y6]) rfl ?_
          exact ⟨x, E, rfl, ⟨H5.out.1.os, H5.out.1.tape, H5.out.1.output, H5.out.1.size, H5.out.1.block⟩, by rw [H5.out.2.1, HE.out]; rfl, fun _ => by rw [H5.out.2.1]⟩
end Go.Proofs.YtipgcdpmkpjokaaGreatDoor
