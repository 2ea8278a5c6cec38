/- Chapter 22's row of words that are written. -/
import Derived.Test.YtacmjpkcimjjpaaApW
import Derived.Test.YtacmjpkcimjjpaaSpQ
namespace Go.Proofs.Ytacmjpkcimjjpaa
set_option linter.unusedSimpArgs false
set_option linter.unusedVariables false
open Go.RowKit Go.Maps

theorem one_new {w : World} {f : Nat} {p : Int} {new : List Pg} (h : NewPgs w f 1 p new) : ∃ g, new = [g] ∧ g.no = f ∧ g.prot = p ∧ g.bytes.length = 4096 ∧ w.heap.size ≤ g.blk := by
  have hn := h.nos
  cases new with
  | nil => cases hn
  | cons g r =>
    cases r with
    | cons x r => simp [List.range'] at hn
    | nil =>
      simp [List.range'] at hn
      obtain ⟨h1, h2, h3⟩ := h.is g (by simp)
      exact ⟨g, rfl, hn, h1, by rw [h2]; exact List.length_replicate, h3⟩

theorem one_keys {P : List Pg} {g : Pg} (h : P.map pgK = [g].map pgK) : ∃ g', P = [g'] ∧ g'.no = g.no ∧ g'.prot = g.prot ∧ g'.blk = g.blk := by
  cases P with
  | nil => cases h
  | cons x r =>
    cases r with
    | cons y r => simp at h
    | nil =>
      simp [pgK] at h
      exact ⟨x, rfl, h⟩

theorem look_one {g : Pg} (hn : g.no = 2) (hp : g.prot = 3) (p : Int) (h : p = 1 ∨ p = 2) : lookE [g] 8192 8 p = 0 := by
  rw [lookE_one (g := g) (by simp) (by decide) (by decide) (by decide) (by unfold pgAt; simp [hn]), hp]
  rcases h with rfl | rfl <;> rfl

def knF : Fx := ⟨0, 2, 0, 1, [120], 8, false⟩

theorem knF_may : mayF knF = true := by decide
theorem knF_at : apAt knF 8192 = 8192 := by decide
theorem knF_val (is : Bool) : apVal knF 8192 100 is = if is then 108 else 0 := by cases is <;> decide
theorem knF_in : knF.In := ⟨by decide, by decide, by decide, by decide⟩

/-- One page, and its first word. -/
structure KnP (P : List Pg) (B : Nat) (n : Nat) : Prop where
  one : ∃ g, P = [g] ∧ g.no = 2 ∧ g.prot = 3 ∧ g.bytes.length = 4096 ∧ B ≤ g.blk
  word : n < 256 ^ 8 → wordN (rdM 8 P 8192 8) = n

theorem KnP.look {P : List Pg} {B n : Nat} (h : KnP P B n) (p : Int) (hp : p = 1 ∨ p = 2) : lookE P 8192 8 p = 0 := by
  obtain ⟨g, rfl, h1, h2, _⟩ := h.one
  exact look_one h1 h2 p hp

theorem KnP.write {w : World} {s b B n m : Nat} {P : List Pg} (h : KnP P B n) {is : Bool} (hs : SpAt w s b (apPgs P knF 8192 100 is)) (hm : m = if is then 108 else 0) : KnP (apPgs P knF 8192 100 is) B m := by
  have hl := h.look 2 (.inr rfl)
  obtain ⟨g, rfl, h1, h2, h3, h4⟩ := h.one
  have e : apPgs [g] knF 8192 100 is = putM 8 [g] 8192 (wordB m 8) := by
    unfold apPgs
    rw [knF_may, if_pos rfl, knF_at, knF_val]
    unfold wrPgs
    rw [wordB_length, if_pos hl, ← hm]
  have hk : (apPgs [g] knF 8192 100 is).map pgK = [g].map pgK := by rw [e]; exact putM_keys _ _ _ _
  obtain ⟨g', e', k1, k2, k3⟩ := one_keys hk
  refine ⟨⟨g', e', k1.trans h1, k2.trans h2, ?_, by rw [k3]; exact h4⟩, fun hlt => ?_⟩
  · exact (hs.pages g' (by rw [e']; simp)).2.1
  · rw [e, rd_put (g := g) (wordB_length _ _) (by decide) (by decide) (by unfold pgAt; simp [h1]) h3, wordN_wordB, Nat.mod_eq_of_lt hlt]

/-- While the row is gone through. -/
structure KnW (w W : World) (K s b : Nat) (P : List Pg) (n : Nat) : Prop where
  sp : SpAt W s b P
  p : KnP P (K + 1) n
  row : RowAt W K 25 knF.cells
  bel : Below w.heap.size w W
  lo : w.heap.size ≤ K

theorem KnW.frame {w W W' : World} {K s b n m : Nat} {P P' : List Pg} (h : KnW w W K s b P n) (hs : SpAt W' s b P') (hp : KnP P' (K + 1) m) (hf : SpF W W' P) : KnW w W' K s b P' m := by
  have hb : Below (K + 1) W W' := hf.below (fun g hg => by obtain ⟨x, rfl, _, _, _, h4⟩ := h.p.one; simp at hg; subst hg; exact h4) h.row.lt
  refine ⟨hs, hp, (hb.block K (Nat.lt_succ_self _)).trans h.row, h.bel.trans (hb.mono (by have := h.lo; omega)), h.lo⟩

theorem KnW.len {w W : World} {K s b n : Nat} {P : List Pg} (h : KnW w W K s b P n) : P.length ≤ 8192 := by
  obtain ⟨g, rfl, _⟩ := h.p.one; simp

set_option maxHeartbeats 2000000 in
theorem ap_known (w : World) : Calls Try.prog 10 #[] w fun e w' => e = .returned (.bool true) ∧ Below w.heap.size w w' := by
  go_enter Try.func10, Try.ntmps10
  go_wp2_with fail
  refine (sp_new _).mono ?_
  rintro e w1 ⟨s, b, rfl, hsp, hs, hb, hbel⟩
  have hlt := hsp.lt
  have H := hid (And.intro hsp (And.intro hbel (And.intro hlt (And.intro hs hb))))
  obtain ⟨K, hK⟩ : ∃ K, K = w1.heap.size := ⟨_, rfl⟩
  have hKK := hid hK
  clear hsp hs hb hbel hlt
  go_wp2_with fail
  obtain ⟨W, hW⟩ : ∃ W, W = w1.alloc (.cells knF.cells 25) := ⟨_, rfl⟩
  have hsW : SpAt W s b [] := by rw [hW]; exact H.out.1.below ((Below.refl _ _).alloc (Nat.le_refl _) _)
  have hrW : RowAt W K 25 knF.cells := by rw [hW, hK]; exact heap_alloc_new _ _
  have hbW : Below w.heap.size w W := by rw [hW]; exact H.out.2.1.trans (((Below.refl _ _).alloc (Nat.le_refl _) _).mono H.out.2.1.size)
  have hzW : W.heap.size = K + 1 := by rw [hW, hK]; simp
  have HW := hid (And.intro hsW (And.intro hrW (And.intro hbW hzW)))
  have hWW := hid hW
  clear hsW hrW hbW hzW
  rw [← hK]
  change Calls _ _ _ (w1.alloc (.cells knF.cells 25)) _
  rw [← hW]
  clear hW hK
  refine (sp_map W s b 8192 4096 3 [] HW.out.1 (by decide) (by decide) (by decide) (by decide) (by decide) (by rfl) (by decide)).mono ?_
  rintro e w2 ⟨rfl, new, hnew, hsp, hgr⟩
  obtain ⟨g, rfl, g1, g2, g3, g4⟩ := one_new hnew
  have hk2 : KnW w w2 K s b [g] (wordN (rdM 8 [g] 8192 8)) := by
    refine ⟨hsp, ⟨⟨g, rfl, g1, g2, g3, by rw [← HW.out.2.2.2]; exact g4⟩, fun _ => rfl⟩, HW.out.2.1.grown hgr (fun e => by have h1 := H.out.2.2.1.2.1; rw [← hKK.out] at h1; cases e; exact Nat.lt_irrefl _ h1), ?_, by rw [hKK.out]; exact H.out.2.1.size⟩
    exact HW.out.2.2.1.grown hgr HW.out.2.2.1.size (fun k e => by cases e; exact H.out.2.2.2.2)
  have H2 := hid hk2
  clear hk2 hsp hgr hnew g1 g2 g3 g4
  obtain ⟨c0, c1, c2, c3, c4, c5, c6⟩ := Fx.at7 H2.out.row
  go_wp2_with fail
  refine (ap_write w2 s b [g] knF 8192 100 true H2.out.sp H2.out.len knF_in (by decide) (by decide)).mono ?_
  rintro e w3 ⟨rfl, hsp, hf⟩
  have he : apE [g] knF 8192 = 0 := by unfold apE; rw [knF_may, if_pos rfl, knF_at]; exact H2.out.p.look 2 (.inr rfl)
  rw [he]
  obtain ⟨P3, hP3⟩ : ∃ P3, P3 = apPgs [g] knF 8192 100 true := ⟨_, rfl⟩
  rw [← hP3] at hsp
  have hk3 : KnW w w3 K s b P3 108 := H2.out.frame hsp (by rw [hP3]; exact H2.out.p.write (by rw [← hP3]; exact hsp) rfl) hf
  have H3 := hid hk3
  clear hk3 hsp hf hP3 he c0 c1 c2 c3 c4 c5 c6
  go_wp2_with fail
  refine (sp_word w3 s b 8192 P3 H3.out.sp H3.out.len (by decide)).mono ?_
  rintro e w4 ⟨hb4, rfl⟩
  rw [if_pos (H3.out.p.look 1 (.inl rfl)), H3.out.p.look 1 (.inl rfl), H3.out.p.word (by decide)]
  have hk4 : KnW w w4 K s b P3 108 := H3.out.frame (H3.out.sp.below hb4) H3.out.p (SpF.of_below hb4)
  have H4 := hid hk4
  obtain ⟨c0, c1, c2, c3, c4, c5, c6⟩ := Fx.at7 H4.out.row
  clear hk4 hb4
  go_wp2_with fail
  refine (ap_write w4 s b P3 knF 8192 100 false H4.out.sp H4.out.len knF_in (by decide) (by decide)).mono ?_
  rintro e w5 ⟨rfl, hsp, hf⟩
  have he : apE P3 knF 8192 = 0 := by unfold apE; rw [knF_may, if_pos rfl, knF_at]; exact H4.out.p.look 2 (.inr rfl)
  rw [he]
  obtain ⟨P5, hP5⟩ : ∃ P5, P5 = apPgs P3 knF 8192 100 false := ⟨_, rfl⟩
  rw [← hP5] at hsp
  have hk5 : KnW w w5 K s b P5 0 := H4.out.frame hsp (by rw [hP5]; exact H4.out.p.write (by rw [← hP5]; exact hsp) rfl) hf
  have H5 := hid hk5
  clear hk5 hsp hf hP5 he c0 c1 c2 c3 c4 c5 c6
  go_wp2_with fail
  refine (sp_word w5 s b 8192 P5 H5.out.sp H5.out.len (by decide)).mono ?_
  rintro e w6 ⟨hb6, rfl⟩
  rw [if_pos (H5.out.p.look 1 (.inl rfl)), H5.out.p.look 1 (.inl rfl), H5.out.p.word (by decide)]
  have H6 := hid (H5.out.bel.trans (hb6.mono H5.out.bel.size))
  clear hb6
  go_wp2_with fail
  go_ret
  exact ⟨rfl, H6.out⟩
end Go.Proofs.Ytacmjpkcimjjpaa
