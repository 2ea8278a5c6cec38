/- Package trie: all exports. -/
import Derived.Test.YtipgcdpmkpjokaaGreatDoorZAllB
import Derived.Test.YtipgcdpmkpjokaaGreatDoorZSortE
import Derived.Test.YtipgcdpmkpjokaaGreatDoorZCurB
import Derived.Laws.EntriesVeiled
namespace Go.Proofs.YtipgcdpmkpjokaaGreatDoor
set_option linter.unusedSimpArgs false
set_option linter.unusedVariables false
open Go.RowKit Go.Sort

/-- All exports, by rising names, or an error. -/
def allS (l : List UInt8) : Nat × List Exp := ((allT l).1, byNames (allT l).2)

theorem byNames_nil : byNames [] = [] := by simp [byNames]

theorem row5 (w : World) (o0 o1 o2 o3 o4 : Obj) : (((((w.alloc o0).alloc o1).alloc o2).alloc o3).alloc o4).heap[w.heap.size]? = some o0 ∧ (((((w.alloc o0).alloc o1).alloc o2).alloc o3).alloc o4).heap[w.heap.size + 1]? = some o1 ∧ (((((w.alloc o0).alloc o1).alloc o2).alloc o3).alloc o4).heap[w.heap.size + 2]? = some o2 ∧ (((((w.alloc o0).alloc o1).alloc o2).alloc o3).alloc o4).heap[w.heap.size + 3]? = some o3 ∧ (((((w.alloc o0).alloc o1).alloc o2).alloc o3).alloc o4).heap[w.heap.size + 4]? = some o4 := by
  refine ⟨?_, ?_, ?_, ?_, ?_⟩
  · have hs : w.heap.size = w.heap.size := rfl
    exact (Below.heap_alloc ((((w.alloc o0).alloc o1).alloc o2).alloc o3) o4 _ (by simp; try omega)).trans ((Below.heap_alloc (((w.alloc o0).alloc o1).alloc o2) o3 _ (by simp; try omega)).trans ((Below.heap_alloc ((w.alloc o0).alloc o1) o2 _ (by simp; try omega)).trans ((Below.heap_alloc (w.alloc o0) o1 _ (by simp; try omega)).trans (heap_alloc_new w o0))))
  · have hs : (w.alloc o0).heap.size = w.heap.size + 1 := by simp
    rw [← hs]; exact (Below.heap_alloc ((((w.alloc o0).alloc o1).alloc o2).alloc o3) o4 _ (by simp; try omega)).trans ((Below.heap_alloc (((w.alloc o0).alloc o1).alloc o2) o3 _ (by simp; try omega)).trans ((Below.heap_alloc ((w.alloc o0).alloc o1) o2 _ (by simp; try omega)).trans (heap_alloc_new (w.alloc o0) o1)))
  · have hs : ((w.alloc o0).alloc o1).heap.size = w.heap.size + 2 := by simp
    rw [← hs]; exact (Below.heap_alloc ((((w.alloc o0).alloc o1).alloc o2).alloc o3) o4 _ (by simp; try omega)).trans ((Below.heap_alloc (((w.alloc o0).alloc o1).alloc o2) o3 _ (by simp; try omega)).trans (heap_alloc_new ((w.alloc o0).alloc o1) o2))
  · have hs : (((w.alloc o0).alloc o1).alloc o2).heap.size = w.heap.size + 3 := by simp
    rw [← hs]; exact (Below.heap_alloc ((((w.alloc o0).alloc o1).alloc o2).alloc o3) o4 _ (by simp; try omega)).trans (heap_alloc_new (((w.alloc o0).alloc o1).alloc o2) o3)
  · have hs : ((((w.alloc o0).alloc o1).alloc o2).alloc o3).heap.size = w.heap.size + 4 := by simp
    rw [← hs]; exact heap_alloc_new ((((w.alloc o0).alloc o1).alloc o2).alloc o3) o4

/-- What stands at the beginning. -/
theorem DS.start {w w1 : World} {c : Nat} {l : List UInt8} {p : Option Addr} {cap : Nat} (het : ET w) (hb : Below (w.heap.size + 1) (w.alloc (.cells #[.slice p l.length cap] 29)) w1) (hc : w.heap.size + 1 ≤ c) (hcu : CurAt w1 c l 0 false false) (W : World) (F : Value)
    (hF : F = .func (.func 30) #[] (caps w.heap.size w1.heap.size))
    (hW : W = ((((w1.alloc (.cells #[.pointer (some ⟨c, 0, none⟩)] 65)).alloc (.cells #[.slice none 0 0] 23)).alloc (.cells #[.slice none 0 0] 61)).alloc (.cells #[.int .i64 0] 3)).alloc (.cells #[F] 67)) :
    DS w W w.heap.size c w1.heap.size l ⟨0, false⟩ 0 [] [] (.slice none 0 0) (.slice none 0 0) := by
  subst hF
  subst hW
  have hs := hb.size
  simp at hs
  have hcl := CurAt.lt hcu
  have g0 := World.grownBy_alloc w1 (.cells #[.pointer (some ⟨c, 0, none⟩)] 65) none
  have hbW : Below w1.heap.size w1 (((((w1.alloc (.cells #[.pointer (some ⟨c, 0, none⟩)] 65)).alloc (.cells #[.slice none 0 0] 23)).alloc (.cells #[.slice none 0 0] 61)).alloc (.cells #[.int .i64 0] 3)).alloc (.cells #[.func (.func 30) #[] (caps w.heap.size w1.heap.size)] 67)) :=
    ((((((Below.refl _ _).alloc (Nat.le_refl _) _).alloc (by simp) _).alloc (by simp; omega) _).alloc (by simp; omega) _).alloc (by simp; omega) _)
  have hB : RowAt w1 w.heap.size 29 #[.slice p l.length cap] := (hb.block w.heap.size (by omega)).trans (heap_alloc_new w _)
  refine ⟨⟨p, cap, (hbW.block w.heap.size (by omega)).trans hB⟩, ?_, ?_, ?_, ?_, ?_, CurAt.below hcu hbW, het, World.ownsRow_nil _ _ _ _, World.ownsRow_nil _ _ _ _, Apart.nil _, ?_, Nat.le_refl _, by omega, hcl⟩
  · exact (row5 w1 _ _ _ _ _).1
  · exact (row5 w1 _ _ _ _ _).2.1
  · exact (row5 w1 _ _ _ _ _).2.2.1
  · exact (row5 w1 _ _ _ _ _).2.2.2.1
  · exact (row5 w1 _ _ _ _ _).2.2.2.2
  · refine ((Below.refl w.heap.size w).alloc (Nat.le_refl _) (.cells #[.slice p l.length cap] 29)).trans ((hb.mono (by omega)).trans (hbW.mono (by omega)))

set_option maxHeartbeats 1000000 in
set_option maxRecDepth 4000 in
theorem trie_all (w : World) (p : Option Addr) (n cap : Nat) (l : List UInt8) (h : BS w (.slice p n cap) l) (het : ET w) :
    Calls Tryz.prog 9 #[.slice p n cap] w fun e w' => ∃ v, e = .returned (.tuple #[v, .int .i64 ((allS l).1 : Int)]) ∧ ES w' v (allS l).2 ∧ Below w.heap.size w w' := by
  obtain rfl := h.len
  have hcp := h.cap
  by_cases hne : l = []
  · subst hne
    go_enter Tryz.func9, Tryz.ntmps9
    go_wp2_with fail
    go_ret2
    exact ⟨_, rfl, by rw [show (allS []).2 = [] from byNames_nil]; exact ES.nil _, (Below.refl _ _).alloc (Nat.le_refl _) _⟩
  · have hpos := List.length_pos_iff.2 hne
    have hd1 : ((l.length : Int) == 0) = false := by rw [beq_eq_false_iff_ne]; omega
    have hd2 : (l.length == 0) = false := by rw [beq_eq_false_iff_ne]; omega
    have hmf : ∀ (fn : Fn) (first cap : Array Value) (w : World), (Instr.makeFunc fn first cap).run Tryz.prog w = .ok (.func fn first cap) w := fun _ _ _ _ => rfl
    have H0 := hid (And.intro (h.below ((Below.refl _ _).alloc (Nat.le_refl _) (.cells #[.slice p l.length cap] 29))) (And.intro het hne))
    clear h het hne
    go_enter Tryz.func9, Tryz.ntmps9
    go_wp2_with fail
    refine (cur_new _ p l.length cap l false H0.out.1).mono ?_
    rintro e w1 ⟨c, rfl, hc, hcu, hb⟩
    have hsz0 : (w.alloc (.cells #[.slice p l.length cap] 29)).heap.size = w.heap.size + 1 := by simp
    rw [hsz0] at hc hb
    clear hsz0
    have H1 := hid (And.intro hc (And.intro hcu hb))
    have hsz := hb.size
    clear hc hcu hb
    go_wp2_with fail
    obtain ⟨W, hW⟩ : ∃ W, W = ((((w1.alloc (.cells #[.pointer (some ⟨c, 0, none⟩)] 65)).alloc (.cells #[.slice none 0 0] 23)).alloc (.cells #[.slice none 0 0] 61)).alloc (.cells #[.int .i64 0] 3)).alloc (.cells #[.func (.func 30) #[] (caps w.heap.size w1.heap.size)] 67) := ⟨_, rfl⟩
    have hDS := DS.start H0.out.2.1 H1.out.2.2 H1.out.1 H1.out.2.1 W _ rfl hW
    have hcall := all_down w w.heap.size c w1.heap.size l hcp.2.2 H0.out.2.2 257 W 0 [] 0 [] [] _ _ 0 hDS (by simp) (by simp) (by simp) (by omega) (by simp) (by omega)
    show Calls Tryz.prog 30 #[.int .i64 0, .string (mkS []), .pointer (some ⟨w1.heap.size + 3, 0, none⟩), .pointer (some ⟨w1.heap.size + 2, 0, none⟩), .pointer (some ⟨w1.heap.size, 0, none⟩), .pointer (some ⟨w.heap.size, 0, none⟩), .pointer (some ⟨w1.heap.size + 1, 0, none⟩), .pointer (some ⟨w1.heap.size + 4, 0, none⟩)] (((((w1.alloc (.cells #[.pointer (some ⟨c, 0, none⟩)] 65)).alloc (.cells #[.slice none 0 0] 23)).alloc (.cells #[.slice none 0 0] 61)).alloc (.cells #[.int .i64 0] 3)).alloc (.cells #[.func (.func 30) #[] (caps w.heap.size w1.heap.size)] 67)) _
    rw [← hW]
    refine hcall.mono ?_
    clear hcall hDS hW
    rintro e W3 ⟨rfl, s3, vo3, vw3, hd3, hk3, h03⟩
    obtain ⟨Q, hQ⟩ : ∃ Q, Q = w1.heap.size := ⟨_, rfl⟩
    rw [← hQ] at hd3 ⊢
    have hw1 : w.heap.size ≤ Q := by have := hd3.bc; omega
    clear hQ hk3 h03
    obtain ⟨r, hr⟩ : ∃ r, r = downF l 257 0 [] [] ⟨0, []⟩ := ⟨_, rfl⟩
    rw [← hr] at hd3 ⊢
    have Hr := hid (And.intro hr H0.out.2.2)
    by_cases hz : r.1 = 0
    · have hS : allS l = (0, byNames r.2.out) ∧ NamesApart r.2.out := by
        have hne := H0.out.2.2
        have h1 := allT_apart l
        unfold allS
        unfold allT at h1 ⊢
        rw [if_neg hne, ← hr, if_neg (by omega)] at h1 ⊢
        exact ⟨rfl, h1⟩
      have hb3 : ((r.1 : Int) != 0) = false := by rw [hz]; rfl
      have o0 : W3.cell? ⟨Q + 1, 0, none⟩ = some vo3 := cell_of_row W3 (Q + 1) 0 _ _ _ hd3.bO
      have hfew : r.2.out.length ≤ 4096 := by
        have := downF_few l 257 0 [] [] ⟨0, []⟩ (by simp)
        rw [← hr] at this
        exact this hz
      have hne1 := hd3.vo_ne (show Q + 1 < Q + 5 by omega)
      obtain ⟨op, oc, ho⟩ := ownsRow_form hd3.own
      subst ho
      have hsort := sort_any W3 (Q + 5) _ r.2.out hd3.own (by omega) hS.2
      have H3 := hid (And.intro hd3 (And.intro hS (And.intro hne1 hsort)))
      clear hd3 hS hne1 hsort hr hz
      go_wp2_with fail
      refine H3.out.2.2.2.mono ?_
      rintro e W4 ⟨rfl, hes, hg4⟩
      have o1 : W4.cell? ⟨Q + 1, 0, none⟩ = some (.slice op r.2.out.length oc) := (World.cell?_of_block (hg4.block (Q + 1) (by have := H3.out.1.top; omega) (Ne.symm H3.out.2.2.1))).trans o0
      have H4 := hid (And.intro hes hg4)
      clear hes hg4
      go_wp2_with fail
      go_ret2
      rw [H3.out.2.1.1]
      refine ⟨_, rfl, H4.out.1, H3.out.1.low.grown H4.out.2 H3.out.1.low.size (fun k hk => ?_)⟩
      have := (World.ownsRow.lt H3.out.1.own k hk).1
      omega
    · have hS : allS l = (r.1, []) := by
        have hne := H0.out.2.2
        unfold allS
        unfold allT
        rw [if_neg hne, ← hr, if_pos hz]
        simp [byNames]
      have hb3 : ((r.1 : Int) != 0) = true := by rw [bne_iff_ne]; omega
      have H3 := hid (And.intro hd3 hS)
      clear hd3 hS hr hz
      go_wp2_with fail
      go_ret2
      rw [H3.out.2]
      exact ⟨_, rfl, ES.nil _, H3.out.1.low⟩
end Go.Proofs.YtipgcdpmkpjokaaGreatDoor

namespace Go.Proofs.YtipgcdpmkpjokaaGreatDoor
set_option linter.unusedSimpArgs false
set_option linter.unusedVariables false
open Go.RowKit

theorem ES.form {w : World} {v : Value} {l : List Exp} (h : ES w v l) : ∃ a cap, v = .slice a l.length cap := by
  obtain ⟨a, cap, rfl, _⟩ := h
  exact ⟨a, cap, rfl⟩

theorem ES.len {w : World} {v : Value} {l : List Exp} (h : ES w v l) : l.length ≤ 140737488355328 := by obtain ⟨a, cap, rfl, _, h1, _⟩ := h; exact h1.2

theorem ES.at {w : World} {a : Option Addr} {n cap : Nat} {l : List Exp} (h : ES w (.slice a n cap) l) {k : Nat} {x : Exp} (hx : l[k]? = some x) :
    ∃ g off, a = some ⟨g, off, none⟩ ∧ w.cell? ⟨g, off + k * 7, none⟩ = some (.string (mkS x.name)) ∧ w.cell? ⟨g, off + k * 7 + 1, none⟩ = some (.int .i64 x.kind) ∧ w.cell? ⟨g, off + k * 7 + 2, none⟩ = some (.bool x.weak) ∧ w.cell? ⟨g, off + k * 7 + 3, none⟩ = some (.int .u64 (x.value : Int)) ∧ w.cell? ⟨g, off + k * 7 + 4, none⟩ = some (.int .u64 (x.resolver : Int)) ∧ w.cell? ⟨g, off + k * 7 + 5, none⟩ = some (.int .u64 (x.ordinal : Int)) ∧ w.cell? ⟨g, off + k * 7 + 6, none⟩ = some (.string (mkS x.other)) := by
  obtain ⟨a', cap', he, h1, h2, h3⟩ := h
  cases he
  obtain ⟨g, off, rfl, hc⟩ := h3 (by intro e; rw [e] at hx; simp at hx)
  exact ⟨g, off, rfl, hc k x hx 0 _ rfl, hc k x hx 1 _ rfl, hc k x hx 2 _ rfl, hc k x hx 3 _ rfl, hc k x hx 4 _ rfl, hc k x hx 5 _ rfl, hc k x hx 6 _ rfl⟩

set_option maxHeartbeats 1000000 in
theorem ref_same (w : World) (v1 v2 : Value) (l : List Exp) (h1 : ES w v1 l) (h2 : ES w v2 l) :
    Calls Tryz.prog 11 #[v1, v2] w fun e w' => e = .returned (.bool true) ∧ ∃ q, w' = w.drewN q := by
  obtain ⟨a1, c1, rfl⟩ := h1.form
  obtain ⟨a2, c2, rfl⟩ := h2.form
  have hll := h1.len
  have hne : ((l.length : Int) != (l.length : Int)) = false := by simp
  have H := hid (And.intro h1 h2)
  clear h1 h2
  go_enter Tryz.func11, Tryz.ntmps11
  go_wp2_with fail
  go_loopw [5] (fun i wr => ∃ k q : Nat, k ≤ l.length ∧ i = .int .i64 (k : Int) ∧ wr = w.drewN q) (fun i _ => l.length - (intOf i).toNat)
  case atStart => exact ⟨0, 0, Nat.zero_le _, rfl, rfl⟩
  case round =>
    obtain ⟨k, q, hk, rfl, rfl⟩ := hrel
    by_cases hlt : k < l.length
    · obtain ⟨x, hx⟩ : ∃ x, l[k]? = some x := ⟨_, List.getElem?_eq_getElem hlt⟩
      obtain ⟨g1, o1, rfl, x0, x1, x2, x3, x4, x5, x6⟩ := H.out.1.at hx
      obtain ⟨g2, o2, rfl, y0, y1, y2, y3, y4, y5, y6⟩ := H.out.2.at hx
      clear hx
      go_wp2
      go_quiet (fail)
      go_wp2
      go_roundw
      case rel => exact ⟨k + 1, _, by omega, by go_num, rfl⟩
      case measure => simp [intOf]; omega
    · go_wp2
      go_ret
      exact ⟨rfl, _, rfl⟩

theorem all_one : allT [0, 1, 97, 0, 5, 2, 0, 7, 0] = (0, [⟨[97], 1, false, 7, 0, 0, []⟩]) := by kernel_rfl
theorem all_two : (allT [0, 1, 97, 0, 0]).1 = 12 := by kernel_rfl
theorem known_one : allS [0, 1, 97, 0, 5, 2, 0, 7, 0] = (0, [⟨[97], 1, false, 7, 0, 0, []⟩]) := by unfold allS; rw [all_one]; simp [byNames]
theorem known_two : (allS [0, 1, 97, 0, 0]).1 = 12 := all_two

theorem ES.lit (w : World) (l : List Exp) (t : TypeId) (hl : l.length ≤ 140737488355328) : ES (w.alloc (.cells (expCells l).toArray t)) (.slice (some ⟨w.heap.size, 0, none⟩) l.length l.length) l :=
  ES.of_owns (base := 0) (e := t) ⟨expCells_length l, .inr ⟨w.heap.size, l.length, (expCells l).toArray, rfl, Nat.zero_le _, heap_alloc_new w _, Nat.le_refl _, Nat.le_trans hl (by decide), by simp [expCells_length], List.take_of_length_le (by simp [expCells_length])⟩⟩ hl

theorem BS.lit (w : World) (l : List UInt8) (hl : l.length ≤ 140737488355328) : BS (w.alloc (.cells (u8s l).toArray 5)) (.slice (some ⟨w.heap.size, 0, none⟩) l.length l.length) l := (OB.laid w l hl).bs hl

theorem lit_one (w : World) : BS (w.alloc (.cells #[.int .u8 0, .int .u8 1, .int .u8 97, .int .u8 0, .int .u8 5, .int .u8 2, .int .u8 0, .int .u8 7, .int .u8 0] 5)) (.slice (some ⟨w.heap.size, 0, none⟩) 9 9) [0, 1, 97, 0, 5, 2, 0, 7, 0] := BS.lit w [0, 1, 97, 0, 5, 2, 0, 7, 0] (by simp)
theorem lit_two (w : World) : BS (w.alloc (.cells #[.int .u8 0, .int .u8 1, .int .u8 97, .int .u8 0, .int .u8 0] 5)) (.slice (some ⟨w.heap.size, 0, none⟩) 5 5) [0, 1, 97, 0, 0] := BS.lit w [0, 1, 97, 0, 0] (by simp)
theorem lit_exp (w : World) : ES (w.alloc (.cells #[.string ⟨#[97]⟩, .int .i64 1, .bool false, .int .u64 7, .int .u64 0, .int .u64 0, .string ⟨#[]⟩] 28)) (.slice (some ⟨w.heap.size, 0, none⟩) 1 1) [⟨[97], 1, false, 7, 0, 0, []⟩] := ES.lit w [⟨[97], 1, false, 7, 0, 0, []⟩] _ (by simp)

theorem ET.below {w w' : World} (h : ET w) (hb : Below w.heap.size w w') : ET w' := by
  have hlt := lt_of_cellB h
  unfold ET at h ⊢
  rw [hb.cell (p := ⟨0, 0, none⟩) hlt]; exact h

set_option maxHeartbeats 1000000 in
theorem trie_known (w : World) (het : ET w) : Calls Tryz.prog 5 #[] w fun e w' => e = .returned (.bool true) ∧ Below w.heap.size w w' := by
  have H := hid het
  clear het
  go_enter Tryz.func5, Tryz.ntmps5
  go_wp2_with fail
  have a1 : Below w.heap.size w (w.alloc (.cells #[.int .u8 0, .int .u8 1, .int .u8 97, .int .u8 0, .int .u8 5, .int .u8 2, .int .u8 0, .int .u8 7, .int .u8 0] 5)) := (Below.refl _ _).alloc (Nat.le_refl _) _
  refine (trie_all _ _ 9 9 _ (lit_one w) (H.out.below a1)).mono ?_
  rintro e w1 ⟨v, rfl, hes, hb1⟩
  rw [known_one] at hes ⊢
  have hb1' : Below w.heap.size w w1 := a1.trans (hb1.mono a1.size)
  have H1 := hid (And.intro hes hb1')
  clear hes hb1 hb1' a1
  go_wp2_with fail
  have a2 : Below w1.heap.size w1 (w1.alloc (.cells #[.int .u8 0, .int .u8 1, .int .u8 97, .int .u8 0, .int .u8 0] 5)) := (Below.refl _ _).alloc (Nat.le_refl _) _
  refine (trie_all _ _ 5 5 _ (lit_two w1) ((H.out.below H1.out.2).below a2)).mono ?_
  rintro e w2 ⟨v2, rfl, -, hb2⟩
  rw [known_two]
  have hb2' : Below w1.heap.size w1 w2 := a2.trans (hb2.mono a2.size)
  have H2 := hid hb2'
  clear hb2 hb2' a2
  go_wp2_with fail
  have a3 : Below w2.heap.size w2 (w2.alloc (.cells #[.string ⟨#[97]⟩, .int .i64 1, .bool false, .int .u64 7, .int .u64 0, .int .u64 0, .string ⟨#[]⟩] 28)) := (Below.refl _ _).alloc (Nat.le_refl _) _
  refine (ref_same _ _ _ _ ((H1.out.1.below H2.out).below a3) (lit_exp w2)).mono ?_
  rintro e w3 ⟨rfl, q, rfl⟩
  have H3 := hid ((H1.out.2.trans (H2.out.mono H1.out.2.size)).trans (a3.mono (Nat.le_trans H1.out.2.size H2.out.size)))
  clear a3
  go_wp2_with fail
  go_ret
  exact ⟨rfl, ⟨H3.out.os, H3.out.tape, H3.out.output, H3.out.size, H3.out.block⟩⟩
end Go.Proofs.YtipgcdpmkpjokaaGreatDoor
