/- script.ToldOf of a fault. -/
import Derived.Test.YtfkpbgookilhjaaGreatDoorZScTo
import Derived.Test.YtfkpbgookilhjaaGreatDoorZScZ
namespace Go.Proofs.YtfkpbgookilhjaaGreatDoor
set_option linter.unusedSimpArgs false
set_option linter.unusedVariables false
open Go.RowKit

theorem OfIn.kr {w W : World} {X c r K : Nat} {l : List UInt8} {k : Nat} {y : List UInt8} {Z : Array Value} {t : TypeId} (h : OfIn w W X c r K l k y Z t) : W.cell? ⟨K, 0, none⟩ = some (.pointer (some ⟨r, 0, none⟩)) ∧ W.cell? ⟨r, 0, none⟩ = some (.pointer (some ⟨c, 0, none⟩)) := ⟨h.ka.cell, h.rd.cell.1⟩
theorem OfIn.drew {w W : World} {X c r K : Nat} {l : List UInt8} {k : Nat} {y : List UInt8} {Z : Array Value} {t : TypeId} (h : OfIn w W X c r K l k y Z t) : OfIn w W.drew X c r K l k y Z t := h.below ⟨rfl, rfl, rfl, Nat.le_refl _, fun _ _ => rfl⟩

set_option maxHeartbeats 4000000 in
set_option maxRecDepth 4000 in
theorem tl_of_fault (w : World) (p : Option Addr) (cap : Nat) (P E : Nat) (img : List UInt8) (hP : P ≤ 255) (hE0 : 1 ≤ E) (hE : E ≤ 255) (himg : img.length ≤ 65535) (hb : BS w (.slice p (faultB P E ++ nmB img).length cap) (faultB P E ++ nmB img)) :
    Calls Tryz.prog 18 #[.slice p (faultB P E ++ nmB img).length cap] w fun e w' => e = .returned (.tuple #[.agg #[.int .i64 (P : Int), .string (mkS img), .int .i64 (E : Int), .slice none 0 0, .slice none 0 0, .slice none 0 0, .int .u64 0], .int .i64 0]) ∧ Below w.heap.size w w' := by
  obtain ⟨l, hl⟩ : ∃ l, l = faultB P E ++ nmB img := ⟨_, rfl⟩
  rw [← hl] at hb ⊢
  have hl2 : l = lowB 70 1 ++ (lowB P 1 ++ (lowB E 1 ++ (nmB img ++ []))) := by
    rw [hl, List.append_nil]
    have e1 : ((P : Int) % 256).toNat = P := by omega
    have e2 : ((E : Int) % 256).toNat = E := by omega
    have e3 : lowB P 1 = [UInt8.ofNat P] := by show [UInt8.ofNat (P % 256)] = _; rw [Nat.mod_eq_of_lt (by omega)]
    have e4 : lowB E 1 = [UInt8.ofNat E] := by show [UInt8.ofNat (E % 256)] = _; rw [Nat.mod_eq_of_lt (by omega)]
    unfold faultB
    rw [e1, e2, e3, e4]
    rfl
  have hwP : IntKind.i64.wrap (P : Int) = (P : Int) := IntWalk.i64_in _ (by omega)
  have hwE : IntKind.i64.wrap (E : Int) = (E : Int) := IntWalk.i64_in _ (by omega)
  have hne : ((E : Int) != 0) = true := by unfold bne; rw [beq_eq_false_iff_ne.2 (by omega)]; rfl
  have hP2 : P < 256 ^ 1 := by omega
  have hE2 : E < 256 ^ 1 := by omega
  have hi2 : img.length < 65536 := by omega
  obtain ⟨W0, hW0⟩ : ∃ W0, W0 = w.alloc (.cells #[.int .i64 0, .string ⟨#[]⟩, .int .i64 0, .slice none 0 0, .slice none 0 0, .slice none 0 0, .int .u64 0] 49) := ⟨_, rfl⟩
  have hb0 : Below w.heap.size w W0 := by rw [hW0]; exact (Below.refl _ _).alloc (Nat.le_refl _) _
  have hX0 : W0.heap[w.heap.size]? = some (.cells #[.int .i64 0, .string (mkS []), .int .i64 0, .slice none 0 0, .slice none 0 0, .slice none 0 0, .int .u64 0] 49 (0, 0)) := by rw [hW0]; exact heap_alloc_new w _
  have hs0 : W0.heap.size = w.heap.size + 1 := by rw [hW0]; simp
  have H0 := hid (And.intro (hb.below hb0) (And.intro hb0 (And.intro hX0 (And.intro hs0 hl2))))
  have HW := hid hW0.symm
  clear hb hb0 hX0 hs0 hl hl2 hW0
  go_enter Tryz.func18, Tryz.ntmps18
  go_upto_region 1 with fail
  rw [HW.out]
  go_wp2_with fail
  refine (cur_new _ p l.length cap l false H0.out.1).mono ?_
  rintro e w1 ⟨c, rfl, hc, hcu, hb1⟩
  have H1 := hid (And.intro hc (And.intro hcu hb1))
  clear hc hcu hb1
  go_upto_region 2 with fail
  obtain ⟨W2, hW2⟩ : ∃ W2, W2 = ((w1.alloc (.cells #[.pointer (some ⟨c, 0, none⟩), .bool false] 74)).alloc (.cells #[.pointer (some ⟨w1.heap.size, 0, none⟩)] 70)) := ⟨_, rfl⟩
  have O := of_ord H0.out.2.1 H0.out.2.2.2.1 H1.out.1 H1.out.2.1
  have hi2' : OfIn w W2 w.heap.size c w1.heap.size (w1.heap.size + 1) l 0 l #[.int .i64 0, .string (mkS []), .int .i64 0, .slice none 0 0, .slice none 0 0, .slice none 0 0, .int .u64 0] 49 := by
    rw [hW2]; exact of_start H0.out.2.1 H0.out.2.2.2.1 H0.out.2.2.1 H1.out.1 H1.out.2.1 H1.out.2.2
  rw [← hW2]
  clear hW2
  have k0 := hi2'.ka.cell
  obtain ⟨x0, x1⟩ := hi2'.rd.cell
  have H2 := hid hi2'
  clear hi2'
  go_wp2_with fail
  refine (rd_number c _ l _ 0 70 1 1 (by simp) rfl H2.out.rd.cur H0.out.2.2.2.2 (by omega)).mono ?_
  rintro e w3 ⟨rfl, hc3, hd3, hg3⟩
  have hi := H2.out.next O (H2.out.rd.next hc3 hg3) hd3 hg3
  clear hc3 hd3 hg3 k0 x0 x1
  have H3 := hid hi
  clear hi
  have hX1 : w1.heap.size + 1 ≠ w.heap.size := by have := O.b; have := O.d; have := O.e; omega
  have hX2 : w1.heap.size ≠ w.heap.size := by have := O.b; have := O.d; omega
  go_upto_region 7 with fail
  have hi := H3.out.drew
  have z0 : _ = some (Value.int .i64 0) := cell_of_row _ w.heap.size 0 _ _ _ hi.res
  have z1 : _ = some (Value.string (mkS [])) := cell_of_row _ w.heap.size 1 _ _ _ hi.res
  have z2 : _ = some (Value.int .i64 0) := cell_of_row _ w.heap.size 2 _ _ _ hi.res
  have zf := fun i => frozen_of_row _ w.heap.size i _ _ hi.res
  go_region_held (fun W => W.cell? ⟨w1.heap.size + 1, 0, none⟩ = some (.pointer (some ⟨w1.heap.size, 0, none⟩)) ∧ W.cell? ⟨w1.heap.size, 0, none⟩ = some (.pointer (some ⟨c, 0, none⟩))) (first | exact hi.kr | exact kr_put hX1 hX2 (kr_put hX1 hX2 (kr_put hX1 hX2 hi.kr)))
    (first
      | (go_at_call 36; have hq := rd_number c _ l _ _ P 1 1 (by simp) rfl hi.rd.cur hi.left hP2; (with_reducible refine hq.mono ?_); clear hq; rintro e w4 ⟨rfl, hc4, hd4, hg4⟩; have hi := hi.next O (hi.rd.next hc4 hg4) hd4 hg4; clear hc4 hd4 hg4 z0 z1 z2 zf; have z0 : _ = some (Value.int .i64 0) := cell_of_row _ w.heap.size 0 _ _ _ hi.res; have z1 : _ = some (Value.string (mkS [])) := cell_of_row _ w.heap.size 1 _ _ _ hi.res; have z2 : _ = some (Value.int .i64 0) := cell_of_row _ w.heap.size 2 _ _ _ hi.res; have zf := fun i => frozen_of_row _ w.heap.size i _ _ hi.res)
      | (go_at_call 36; have hq := rd_number c _ l _ _ E 1 1 (by simp) rfl hi.rd.cur hi.left hE2; (with_reducible refine hq.mono ?_); clear hq; rintro e w5 ⟨rfl, hc5, hd5, hg5⟩; have hi := hi.next O (hi.rd.next hc5 hg5) hd5 hg5; clear hc5 hd5 hg5 z0 z1 z2 zf; have z0 : _ = some (Value.int .i64 0) := cell_of_row _ w.heap.size 0 _ _ _ hi.res; have z1 : _ = some (Value.string (mkS [])) := cell_of_row _ w.heap.size 1 _ _ _ hi.res; have z2 : _ = some (Value.int .i64 0) := cell_of_row _ w.heap.size 2 _ _ _ hi.res; have zf := fun i => frozen_of_row _ w.heap.size i _ _ hi.res)
      | (go_at_call 37; have hq := rd_name _ c _ l img [] _ hi.rd hi.left hi2; (with_reducible refine hq.mono ?_); clear hq; rintro e w6 ⟨rfl, hr6, hd6, hg6⟩; have hi := hi.next O hr6 hd6 hg6; clear hr6 hd6 hg6 z0 z1 z2 zf; have z0 : _ = some (Value.int .i64 0) := cell_of_row _ w.heap.size 0 _ _ _ hi.res; have z1 : _ = some (Value.string (mkS [])) := cell_of_row _ w.heap.size 1 _ _ _ hi.res; have z2 : _ = some (Value.int .i64 0) := cell_of_row _ w.heap.size 2 _ _ _ hi.res; have zf := fun i => frozen_of_row _ w.heap.size i _ _ hi.res)
      | fail "no call")
  all_goals
    obtain ⟨hg7, hrow7⟩ := put3 (i1 := 0) (i2 := 1) (i3 := 2) (.int .i64 (P : Int)) (.string (mkS img)) (.int .i64 (E : Int)) hi.res
    have hi7 := hi.putX O (noByte7 0 [] 0 none none none 0 0 0 0 0 0 0) hg7 hrow7
    clear hg7 hrow7 z0 z1 z2 zf hi
    generalize ((w6.setCell ⟨w.heap.size, 0, none⟩ (.int .i64 (P : Int))).setCell ⟨w.heap.size, 1, none⟩ (.string (mkS img))).setCell ⟨w.heap.size, 2, none⟩ (.int .i64 (E : Int)) = W7 at hi7 ⊢
    have hi7 : OfIn w W7 w.heap.size c w1.heap.size (w1.heap.size + 1) l _ [] #[.int .i64 (P : Int), .string (mkS img), .int .i64 (E : Int), .slice none 0 0, .slice none 0 0, .slice none 0 0, .int .u64 0] 49 := hi7
    have hk : RdAt W7 w1.heap.size c l l.length := by
      have h1 := congrArg List.length hi7.left
      have h2 := hi7.rd.cur.le
      have h3 := hi7.rd
      rw [List.length_drop] at h1
      simp at h1
      have e : l.length = 0 + 1 + 1 + 1 + 2 + img.length := by omega
      rw [e]; exact h3
    have k0 := hi7.ka.cell
    have z2 : W7.cell? ⟨w.heap.size, 2, none⟩ = some (.int .i64 (E : Int)) := cell_of_row _ _ 2 _ _ _ hi7.res
    have H7 := hid (And.intro hi7 hk)
    clear hi7 hk
    go_wp2_with fail
    refine (rd_end0 _ c _ l H7.out.2).mono ?_
    rintro e w8 ⟨rfl, hb8⟩
    have hi8 := H7.out.1.below hb8
    have hrow := hi8.res
    obtain ⟨q0, q1, q2, q3, q4, q5, q6⟩ := row7 hrow
    have u0 := setSelf hrow 0 (.int .i64 (P : Int)) rfl
    have u1 := setSelf hrow 1 (.string (mkS img)) rfl
    have u2 := setSelf hrow 2 (.int .i64 (E : Int)) rfl
    have u3 := setSelf hrow 3 (.slice none 0 0) rfl
    have u4 := setSelf hrow 4 (.slice none 0 0) rfl
    have u5 := setSelf hrow 5 (.slice none 0 0) rfl
    have u6 := setSelf hrow 6 (.int .u64 0) rfl
    have zf := fun i => frozen_of_row w8 w.heap.size i _ _ hrow
    have H8 := hid hi8.bel
    clear hi8 hrow hb8 k0 z2
    go_wp2_with fail
    refine bodyPost_ret (v := .tuple #[.agg #[.int .i64 (P : Int), .string (mkS img), .int .i64 (E : Int), .slice none 0 0, .slice none 0 0, .slice none 0 0, .int .u64 0], .int .i64 0]) (by simp [results, Tryz.results18, go_sem, q0, q1, q2, q3, q4, q5, q6]) rfl ?_
    exact ⟨rfl, H8.out⟩
end Go.Proofs.YtfkpbgookilhjaaGreatDoor
