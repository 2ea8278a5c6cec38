/- Package space: Write. -/
import Derived.Test.YtacmjpkcimjjpaaSpP
namespace Go.Proofs.Ytacmjpkcimjjpaa
set_option linter.unusedSimpArgs false
set_option linter.unusedVariables false
open Go.RowKit Go.Maps

theorem lookL_has {pgs : List Pg} {p : Int} : ∀ {k n : Nat} {e : Int}, lookL pgs p n k e ≠ 4 → ∀ m, n ≤ m → m < n + k → (pgAt pgs m).isSome = true
  | 0, n, e, _, m, h1, h2 => by omega
  | k + 1, n, e, h, m, h1, h2 => by
    cases hp : pgAt pgs n with
    | none => exact absurd (lookL_none hp) h
    | some g =>
      rw [lookL_some hp] at h
      by_cases hm : m = n
      · subst hm; rw [hp]; rfl
      · exact lookL_has h m (by omega) (by omega)

theorem lookE_has {pgs : List Pg} {a z : Nat} {p : Int} (h : lookE pgs a z p ≠ 4) (hz : 0 < z) : a + z ≤ 2 ^ 47 ∧ ∀ n, a / 4096 ≤ n → 4096 * n < a + z → (pgAt pgs n).isSome = true := by
  unfold lookE at h
  split at h
  · rename_i hin
    have hle := inB_le hin
    split at h
    · exact (h rfl).elim
    · exact ⟨hle, fun n h1 h2 => lookL_has h n h1 (by omega)⟩
  · exact (h rfl).elim

/-- What may have changed: new blocks, and the space's pages. -/
structure SpF (w w' : World) (pgs : List Pg) : Prop where
  os : w'.os = w.os
  tape : w'.tape = w.tape
  output : w'.output = w.output
  size : w.heap.size ≤ w'.heap.size
  block : ∀ k, k < w.heap.size → (∀ g ∈ pgs, g.blk ≠ k) → w'.heap[k]? = w.heap[k]?

theorem SpF.of_below {w w' : World} {pgs : List Pg} (h : Below w.heap.size w w') : SpF w w' pgs := ⟨h.os, h.tape, h.output, h.size, fun k hk _ => h.block k hk⟩
theorem SpF.put {w w1 w' : World} {pgs : List Pg} (h : SpF w w1 pgs) (g : PutF w1 w' pgs) : SpF w w' pgs := ⟨g.os.trans h.os, g.tape.trans h.tape, g.output.trans h.output, by rw [g.size]; exact h.size, fun k hk hn => (g.block k hn).trans (h.block k hk hn)⟩
theorem SpF.trans {w w1 w' : World} {pgs pgs' : List Pg} (h : SpF w w1 pgs) (g : SpF w1 w' pgs') (hk : pgs'.map pgK = pgs.map pgK) : SpF w w' pgs := ⟨g.os.trans h.os, g.tape.trans h.tape, g.output.trans h.output, Nat.le_trans h.size g.size, fun k hlt hn => (g.block k (Nat.lt_of_lt_of_le hlt h.size) fun q hq => by
  obtain ⟨q', h1, h2⟩ := mem_keys hk.symm hq
  have : q'.blk = q.blk := congrArg (fun x : Nat × Int × Nat => x.2.2) h2
  rw [← this]; exact hn q' h1).trans (h.block k hlt hn)⟩

def wrPgs (pgs : List Pg) (a : Nat) (l : List UInt8) : List Pg := if lookE pgs a l.length 2 = 0 then putM l.length pgs a l else pgs

theorem wrPgs_keys (pgs : List Pg) (a : Nat) (l : List UInt8) : (wrPgs pgs a l).map pgK = pgs.map pgK := by
  unfold wrPgs
  split
  · exact putM_keys _ _ _ _
  · rfl

def WriteEnd (w : World) (s b a : Nat) (l : List UInt8) (pgs : List Pg) (e : Ending) (w' : World) : Prop :=
  e = .returned (.int .i64 (lookE pgs a l.length 2)) ∧ SpAt w' s b (wrPgs pgs a l) ∧ SpF w w' pgs

set_option maxHeartbeats 1000000 in
theorem sp_write (w : World) (s b a : Nat) (v : Value) (l : List UInt8) (pgs : List Pg) (h : SpAt w s b pgs) (hlen : pgs.length ≤ 8192) (hv : BS w v l) (ha : a < 2 ^ 64) (hl : 0 < l.length) (hap : ∀ g ∈ pgs, ¬ inBlk v g.blk) :
    Calls Try.prog 50 #[.pointer (some ⟨s, 0, none⟩), .int .u64 (a : Int), v] w (WriteEnd w s b a l pgs) := by
  obtain ⟨p, cap, rfl⟩ := hv.form rfl
  have hcap := hv.cap
  have hlk := sp_look w s b a l.length 2 pgs h hlen ha (by omega) hl
  obtain ⟨R, hR⟩ : ∃ R, R = lookE pgs a l.length 2 := ⟨_, rfl⟩
  obtain ⟨L, hL⟩ : ∃ L, L = l.length := ⟨_, rfl⟩
  rw [← hR, ← hL] at hlk
  have hwl : IntKind.u64.wrap (L : Int) = (L : Int) := IntWalk.u64_in _ (by omega)
  have H := hid (And.intro h (And.intro hv (And.intro hl (And.intro hap (And.intro hR hL)))))
  have HL := hid hlk
  unfold WriteEnd
  rw [← hR, ← hL]
  clear h hv hl hap hR hL hlk hcap ha hlen
  go_enter Try.func50, Try.ntmps50
  go_wp2_with fail
  refine HL.out.mono ?_
  rintro e w1 ⟨rfl, hb⟩
  by_cases h0 : R = 0
  · have hd : (R != 0) = false := by rw [h0]; rfl
    have HP := sp_put w1 s b a (.slice p L cap) l pgs (H.out.1.below hb) (by have := H.out.2.1.below hb; rw [H.out.2.2.2.2.2]; exact this) (lookE_has (p := 2) (by rw [← H.out.2.2.2.2.1, h0]; decide) H.out.2.2.1).1 (lookE_has (p := 2) (by rw [← H.out.2.2.2.2.1, h0]; decide) H.out.2.2.1).2 (by rw [H.out.2.2.2.2.2]; exact H.out.2.2.2.1)
    have HH := hid (And.intro HP hb)
    have HX := hid h0
    clear HP hb h0
    go_wp2_with fail
    refine HH.out.1.mono ?_
    rintro e w2 ⟨rfl, hsp, hf⟩
    have HS := hid (And.intro hsp hf)
    clear hsp hf
    go_wp2_with fail
    go_ret
    exact ⟨by rw [HX.out]; rfl, by unfold wrPgs; rw [if_pos (by rw [← H.out.2.2.2.2.1, HX.out])]; exact HS.out.1, (SpF.of_below HH.out.2).put HS.out.2⟩
  · have hd : (R != 0) = true := by rw [bne_iff_ne]; exact h0
    have HH := hid hb
    have HX := hid h0
    clear hb h0
    go_wp2_with fail
    go_ret
    exact ⟨rfl, by unfold wrPgs; rw [if_neg (by rw [← H.out.2.2.2.2.1]; exact HX.out)]; exact H.out.1.below HH.out, SpF.of_below HH.out⟩
end Go.Proofs.Ytacmjpkcimjjpaa
