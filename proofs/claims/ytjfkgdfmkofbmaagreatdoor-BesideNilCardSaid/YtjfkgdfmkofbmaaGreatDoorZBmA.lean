/- Have two memories a byte at the same address? Walked. -/
import Derived.Test.YtjfkgdfmkofbmaaGreatDoorZBpR
import Derived.Test.YtjfkgdfmkofbmaaGreatDoorZBpS
import Derived.Test.YtjfkgdfmkofbmaaGreatDoorZBdA
import Derived.Sort.CutIn
namespace Go.Proofs.YtjfkgdfmkofbmaaGreatDoor
set_option linter.unusedSimpArgs false
set_option linter.unusedVariables false
open Go.RowKit
attribute [local go_sem] Oper.semAt_some

/-- What stands while two memories are gone through; b: is there such a byte? -/
structure MeetI (PS : List Pt) (w : World) (X : Nat) (b : Bool) (pre : List PtV) (M : Nat → Prop) (W : World) : Prop where
  row : RowAt W X 4 #[.bool b]
  nm : ¬ M X
  fr : FrV w W
  no : b = false → ∀ y ∈ pre, ¬ (0 < y.p ∧ 0 < y.q)
  yes : b = true → ∃ r ∈ PS, 0 < r.p ∧ 0 < r.q
theorem MeetI.its {PS : List Pt} {w : World} {X : Nat} {b : Bool} {pre : List PtV} {M M' : Nat → Prop} {W W' : World} (h : MeetI PS w X b pre M W) (g : Its M M' W W') : MeetI PS w X b pre M' W' :=
  ⟨(g.keep X h.row.lt h.nm).trans h.row, fun hm => (g.new X hm).elim h.nm (fun e => by have := h.row.lt; omega), h.fr.its g, h.no, h.yes⟩
theorem MeetI.turn {PS : List Pt} {w : World} {X : Nat} {b : Bool} {pre : List PtV} {M : Nat → Prop} {W : World} {l : Nat} {o : Obj} (h : MeetI PS w X b pre M W) (o' : Obj) (ho : W.heap[l]? = some o) (hoc : o.isCells = false) : MeetI PS w X b pre M (W.putObj l o') := by
  refine ⟨(World.putObj_heap_other (fun e => ?_)).trans h.row, h.nm, h.fr.turn _ _, h.no, h.yes⟩
  subst e
  have hr := h.row
  unfold RowAt at hr
  rw [ho] at hr
  cases hr
  cases hoc
theorem MeetI.set {PS : List Pt} {w : World} {X : Nat} {b : Bool} {pre : List PtV} {M : Nat → Prop} {W : World} (h : MeetI PS w X b pre M W) (c : Bool) : MeetI PS w X b pre M W ∧ RowAt (W.setCell ⟨X, 0, none⟩ (.bool c)) X 4 #[.bool c] ∧ FrV w (W.setCell ⟨X, 0, none⟩ (.bool c)) :=
  ⟨h, h.row.same (i := 0) (.bool c), ⟨h.fr.os, h.fr.tape, h.fr.output, by simpa using h.fr.size⟩⟩
theorem MeetI.more {PS : List Pt} {w : World} {X : Nat} {b : Bool} {pre : List PtV} {M : Nat → Prop} {W : World} (h : MeetI PS w X b pre M W) (x : PtV) (h1 : b = false → ¬ (0 < x.p ∧ 0 < x.q)) (h2 : b = true → ∃ r ∈ PS, 0 < r.p ∧ 0 < r.q) : MeetI PS w X b (pre ++ [x]) (rel R0 x M) W := by
  refine ⟨h.row, fun e => h.nm e.1, h.fr, fun hb y hy => ?_, h2⟩
  rcases List.mem_append.1 hy with hy | hy
  · exact h.no hb y hy
  · rw [List.mem_singleton] at hy; subst hy; exact h1 hb

set_option maxRecDepth 100000 in
set_option maxHeartbeats 4000000 in
theorem bd_meet (w : World) (va vb : Value) (A B : List PzV) (hA : PzsAt w va A) (hB : PzsAt w vb B) (hla : A.length ≤ 20000) (hlb : B.length ≤ 20000) (hma : mayZ (A.map PzV.m) = true) (hmb : mayZ (B.map PzV.m) = true) :
    Calls Tryz.prog 26 #[va, vb] w fun e w' => e = .returned (.bool (meetZ (A.map PzV.m) (B.map PzV.m))) ∧ Below w.heap.size w w' := by
  refine (callsIn_wide (n := 3)).1 ?_
  refine callsIn_of_wp_marks Tryz.func26 rfl trivial ?_ rfl
  simp only [Tryz.ntmps26, List.size_toArray, List.length_cons, List.length_nil, Nat.reduceAdd, Nat.reduceSub, Array.replicate_succ, Array.replicate_zero, List.push_toArray, List.append_toArray, List.nil_append, List.cons_append]
  obtain ⟨pa, ca, rfl⟩ := RowsAt.form hA.rows
  obtain ⟨pb, cb, rfl⟩ := RowsAt.form hB.rows
  have hbo := hid (fun W (hb : Below w.heap.size w W) => bd_both W _ _ A B (hA.below hb) (hB.below hb) hla hlb (srt_may hma) (srt_may hmb))
  have H := hid (And.intro hA (And.intro hB (And.intro hla (And.intro hlb (And.intro hma hmb)))))
  clear hA hB hla hlb hma hmb
  gi_wp2
  obtain ⟨W1, hW1⟩ : ∃ W1, W1 = w.alloc (.cells #[.bool false] 4) := ⟨_, rfl⟩
  have hb1 : Below w.heap.size w W1 := by rw [hW1]; exact (Below.refl _ _).alloc (Nat.le_refl _) _
  have hr1 : RowAt W1 w.heap.size 4 #[.bool false] := by rw [hW1]; exact heap_alloc_new w _
  rw [← hW1]
  clear hW1
  refine ⟨trivial, callsIn_wide.2 ((hbo.out _ hb1).mono ?_)⟩
  rintro e w4 ⟨rfl, vt, bs, hbi, hbn⟩
  have hbw4 := hb1.trans (hbi.bel.mono hb1.size)
  have hr4 := RowAt.below hr1 hbi.bel
  have hsz := hbi.size
  have hX3 : w.heap.size < W1.heap.size := hr1.lt
  have hbt := World.ownsRow.lt hbi.own
  obtain ⟨hAv, hAx⟩ := H.out.1.blt
  obtain ⟨hBv, hBx⟩ := H.out.2.1.blt
  have hS : BothS (fun k => k < w4.heap.size ∧ k ≠ w.heap.size) w4 W1.heap.size (W1.heap.size + 1) (W1.heap.size + 1 + 1) _ _ vt A B bs :=
    ⟨hbi.ra, hbi.rb, hbi.rt, H.out.1.below hbw4, H.out.2.1.below hbw4, ownsRow_base hbi.own (Nat.zero_le _), ⟨by omega, by omega⟩, ⟨by omega, by omega⟩, ⟨by omega, by omega⟩,
      fun k hk => ⟨Nat.lt_of_lt_of_le (hAv k hk) hbw4.size, Nat.ne_of_lt (hAv k hk)⟩, fun k hk => ⟨Nat.lt_of_lt_of_le (hBv k hk) hbw4.size, Nat.ne_of_lt (hBv k hk)⟩, fun k hk => ⟨(hbt k hk).2, by have := (hbt k hk).1; omega⟩,
      fun x hx k hk => ⟨Nat.lt_of_lt_of_le (hAx x hx k hk) hbw4.size, Nat.ne_of_lt (hAx x hx k hk)⟩, fun x hx k hk => ⟨Nat.lt_of_lt_of_le (hBx x hx k hk) hbw4.size, Nat.ne_of_lt (hBx x hx k hk)⟩, fun k hk => hk.1⟩
  have hbl : bs.length ≤ 90000 := bnds_len hbn (by have := H.out.2.2.1; simpa using this) (by have := H.out.2.2.2.1; simpa using this)
  have hsa := srt_may H.out.2.2.2.2.1
  have hsb := srt_may H.out.2.2.2.2.2
  have H4 := hid (And.intro hS (And.intro hbn (And.intro hbl (And.intro hbw4 (And.intro hr4 (And.intro hX3 (And.intro hsz (And.intro hsa hsb))))))))
  clear hb1 hr1 hbi hbn hbw4 hr4 hsz hX3 hbt hAv hAx hBv hBx hS hbl hbo hsa hsb
  gi_wp2
  refine wpIn_rangeM 3 (gf := 45) (lb := #[.pointer (some ⟨W1.heap.size + 1 + 1, 0, none⟩), .pointer (some ⟨W1.heap.size, 0, none⟩), .pointer (some ⟨W1.heap.size + 1, 0, none⟩)]) rfl enters_both
    (both_seq 2 (fun k => k < w4.heap.size ∧ k ≠ w.heap.size) w4 _ _ _ _ _ vt A B bs H4.out.1 H.out.2.2.1 H.out.2.2.2.1 H4.out.2.2.2.2.2.2.2.1 H4.out.2.2.2.2.2.2.2.2 (p7_may H.out.2.2.2.2.1) (p7_may H.out.2.2.2.2.2) H4.out.2.1 H4.out.2.2.1)
    (SameM.refl _ _) (fun W o h => h.trans (SameM.below (fun k hk => Nat.lt_of_lt_of_le hk.1 h.size) ((Below.refl _ _).alloc (Nat.le_refl _) _))) (fun k hk => hk.1)
    (fun xs W l o o' h hl ho hoc => ⟨h.1, h.2.turn hl (fun k hk => hk.1)⟩) (fun xs W l o o' h hl ho hoc => h.turn hl (fun k hk => hk.1)) (fun _ => rfl)
    (fun pre M W => MeetI (partsZ (A.map PzV.m) (B.map PzV.m) bs) w w.heap.size false pre M W) (fun c pre M W => c = .ret ∧ MeetI (partsZ (A.map PzV.m) (B.map PzV.m) bs) w w.heap.size true pre M W)
    (fun pre x M a W => ∃ Px, a = { tmps := #[Value.slice pa A.length ca, Value.slice pb B.length cb, undef, undef, Value.pointer (some ⟨w.heap.size, 0, none⟩), .pointer (some ⟨Px, 0, none⟩), Value.slice pa A.length ca, Value.slice pb B.length cb, Value.func (.func 45) #[] #[.pointer (some ⟨W1.heap.size + 1 + 1, 0, none⟩), .pointer (some ⟨W1.heap.size, 0, none⟩), .pointer (some ⟨W1.heap.size + 1, 0, none⟩)], x.v, undef, undef, undef, undef, undef, undef, undef, undef], defers := [] } ∧ MeetI (partsZ (A.map PzV.m) (B.map PzV.m) bs) w w.heap.size false pre M W ∧ Px ≠ w.heap.size ∧ RowAt W Px 81 #[.int .u64 (x.at_ : Int), x.sa, x.sb, .int .i64 x.p, .int .i64 x.q] ∧
      ∃ rest, pre.map PtV.m ++ x.m :: rest = partsZ (A.map PzV.m) (B.map PzV.m) bs)
    ?abide ?abidex ?turn ?turnx ?axturn ?start ?assign ?body ?done ?stop
  case abide => exact fun pre M M' W W' h g => h.its g
  case abidex => exact fun c pre M M' W W' h g => ⟨h.1, h.2.its g⟩
  case turn => exact fun s W l o o' h hl ho hoc => h.turn o' ho hoc
  case turnx => exact fun c s W l o o' h hl ho hoc => ⟨h.1, h.2.turn o' ho hoc⟩
  case axturn =>
    rintro ⟨pre, x, M, a⟩ W l o o' ⟨Px, ha, h, hne, hr, hT⟩ hl ho hoc
    refine ⟨Px, ha, h.turn o' ho hoc, hne, (World.putObj_heap_other (fun e => ?_)).trans hr, hT⟩
    subst e; unfold RowAt at hr; rw [ho] at hr; cases hr; cases hoc
  case start => exact ⟨H4.out.2.2.2.2.1, fun h => h.2 rfl, ⟨H4.out.2.2.2.1.os, H4.out.2.2.2.1.tape, H4.out.2.2.2.1.output, H4.out.2.2.2.1.size⟩, (fun _ y hy => by cases hy), (fun h => by cases h)⟩
  case assign =>
    rintro l pre x M W K h hT hlen hml hl hlt hK
    have HA := hid (And.intro h (And.intro hT hml))
    have hKK := hid hK
    clear h hT hml hK
    gi_wp2
    have hal : Below W.heap.size W (W.alloc (.cells #[.int .u64 (x.at_ : Int), x.sa, x.sb, .int .i64 x.p, .int .i64 x.q] 81)) := (Below.refl _ _).alloc (Nat.le_refl _) _
    refine hKK.out _ _ ((KeepsOthers.alloc _ _).from _) (Kept.of_below hal) (HA.out.1.its (Its.of_below M hal))
      ⟨W.heap.size, rfl, HA.out.1.its (Its.of_below M hal), Ne.symm (Nat.ne_of_lt HA.out.1.row.lt), heap_alloc_new _ _, HA.out.2.1.2.2.2.2⟩
  case body =>
    rintro l pre x M a₁ W - ⟨Px, rfl, hmi, hne, hrx, hT⟩ hlen hml hl hlt
    have x3 : W.cell? ⟨Px, 3, none⟩ = some (.int .i64 x.p) := hrx.cell 3
    have x4 : W.cell? ⟨Px, 4, none⟩ = some (.int .i64 x.q) := hrx.cell 4
    have HX := hid (And.intro hmi (And.intro hne (And.intro hrx hT)))
    have r0 : W.cell? ⟨w.heap.size, 0, none⟩ = some (.bool false) := hmi.row.cell 0
    have f0 := hmi.row.own 0
    clear hmi hrx hT hlen hml hl hlt hne
    by_cases hp : 0 < x.p
    · have hpz : decide ((0 : Int) < x.p) = true := by rw [decide_eq_true_eq]; exact hp
      by_cases hq : 0 < x.q
      · have hqz : decide ((0 : Int) < x.q) = true := by rw [decide_eq_true_eq]; exact hq
        have HQ := hid (And.intro hp hq)
        clear hp hq
        gi_wp2
        exact ⟨(KeepsOthers.setCell _ _ _).from _, Kept.set _ (fun h => HX.out.1.nm h.1), rfl, ⟨(HX.out.1.set true).2.1, fun h => HX.out.1.nm h.1, (HX.out.1.set true).2.2, (fun h => by cases h), fun _ => ⟨x.m, by obtain ⟨rest, e⟩ := HX.out.2.2.2; rw [← e]; simp, HQ.out⟩⟩⟩
      · have hqz : decide ((0 : Int) < x.q) = false := by rw [decide_eq_false_iff_not]; exact hq
        have HQ := hid (show x.q ≤ 0 by omega)
        clear hp hq
        gi_wp2
        exact ⟨(KeepsOthers.refl _).from _, Kept.refl _ _, HX.out.1.more x (fun _ h => by have := HQ.out; omega) (fun h => by cases h)⟩
    · have hpz : decide ((0 : Int) < x.p) = false := by rw [decide_eq_false_iff_not]; exact hp
      have HQ := hid (show x.p ≤ 0 by omega)
      clear hp
      gi_wp2
      exact ⟨(KeepsOthers.refl _).from _, Kept.refl _ _, HX.out.1.more x (fun _ h => by have := HQ.out; omega) (fun h => by cases h)⟩
  case done =>
    rintro D xs M W hD ⟨hx, hsm⟩ h hd
    have hans : meetZ (A.map PzV.m) (B.map PzV.m) = false := by
      rw [← Bool.not_eq_true, meetZ_iff, ← meet_parts H4.out.2.2.2.2.2.2.2.1 H4.out.2.2.2.2.2.2.2.2 H4.out.2.1, ← hx]
      rintro ⟨r, hr, h1⟩
      obtain ⟨y, hy, rfl⟩ := List.mem_map.1 hr
      exact h.no rfl y hy h1
    have c0 : W.cell? ⟨w.heap.size, 0, none⟩ = some (.bool false) := h.row.cell 0
    have f0 := h.row.own 0
    have s0 : W.setCell ⟨w.heap.size, 0, none⟩ (.bool false) = W := setCell_selfB (i := 0) h.row rfl
    have hDl : w.heap.size < D := by have := H4.out.2.2.2.2.1.lt; omega
    have hfin := h.turn (.deferred none) hd rfl
    have hbf : Below w.heap.size w (W.putObj D (.deferred none)) := by
      refine ⟨h.fr.os, h.fr.tape, h.fr.output, by simpa using h.fr.size, fun k hk => ?_⟩
      rw [World.putObj_heap_other (by omega)]
      exact (hsm.blk k ⟨Nat.lt_of_lt_of_le hk H4.out.2.2.2.1.size, by omega⟩).trans (H4.out.2.2.2.1.block k hk)
    have r0 : (W.putObj D (.deferred none)).cell? ⟨w.heap.size, 0, none⟩ = some (.bool false) := hfin.row.cell 0
    have HF := hid (And.intro hans hbf)
    have Hd := hid hd
    clear hx hsm h hd hans hfin hbf
    gi_wp2
    refine ⟨by simp, .inl ⟨_, _, rfl, run_takeDeferred Hd.out, ?_⟩⟩
    refine ⟨.bool false, by simp [results, Tryz.results26, go_sem, r0], ?_⟩
    exact ⟨by rw [HF.out.1], HF.out.2⟩
  case stop =>
    rintro D c pre M W hD hsm ⟨rfl, h⟩ hd
    have c0 : W.cell? ⟨w.heap.size, 0, none⟩ = some (.bool true) := h.row.cell 0
    have hDl : w.heap.size < D := by have := H4.out.2.2.2.2.1.lt; omega
    have hfin := h.turn (.deferred none) hd rfl
    have hbf : Below w.heap.size w (W.putObj D (.deferred none)) := by
      refine ⟨h.fr.os, h.fr.tape, h.fr.output, by simpa using h.fr.size, fun k hk => ?_⟩
      rw [World.putObj_heap_other (by omega)]
      exact (hsm.blk k ⟨Nat.lt_of_lt_of_le hk H4.out.2.2.2.1.size, by omega⟩).trans (H4.out.2.2.2.1.block k hk)
    have r0 : (W.putObj D (.deferred none)).cell? ⟨w.heap.size, 0, none⟩ = some (.bool true) := hfin.row.cell 0
    have hans : meetZ (A.map PzV.m) (B.map PzV.m) = true := by
      rw [meetZ_iff, ← meet_parts H4.out.2.2.2.2.2.2.2.1 H4.out.2.2.2.2.2.2.2.2 H4.out.2.1]
      exact h.yes rfl
    have HF := hid (And.intro hans hbf)
    have Hd := hid hd
    clear hsm h hd hans hfin hbf
    gi_wp2
    refine ⟨by simp, .inl ⟨_, _, rfl, run_takeDeferred Hd.out, ?_⟩⟩
    refine ⟨.bool true, by simp [results, Tryz.results26, go_sem, r0], ?_⟩
    exact ⟨by rw [HF.out.1], HF.out.2⟩
end Go.Proofs.YtjfkgdfmkofbmaaGreatDoor
