/- BesideLays: the rows of two memories, laid on the one, and turned about. -/
import Derived.Test.YthlnjfnjmjdohaaZBmR
import Derived.Test.YthlnjfnjmjdohaaZLwB
import Derived.Test.YthlnjfnjmjdohaaZBpV
namespace Go.Proofs.Ythlnjfnjmjdohaa
set_option linter.unusedSimpArgs false
set_option linter.unusedVariables false
open Go.RowKit

theorem LayEnd.getJ {w w' : World} {r : Int × List Pz} {e : Ending} (h : LayEnd w r e w') : ∃ p n c L, e = .returned (.tuple #[.slice p n c, .int .i64 r.1]) ∧ Below w.heap.size w w' ∧ PzsAt w' (.slice p n c) L ∧ L.map PzV.m = r.2 := by
  obtain ⟨v', rfl, hb, L, ho, hm⟩ := h
  obtain ⟨p, n, c, rfl⟩ := own_form ho.own
  exact ⟨p, n, c, L, rfl, hb, ho.reads, hm⟩
/-- Rows that may be handed on. -/
structure OkR (r : Rz) : Prop where
  l : ∀ p ∈ r.lost, p.bytes ≠ []
  g : ∀ p ∈ r.gained, p.bytes ≠ []
  p : ∀ x ∈ r.patches, x.at_ < 2 ^ 64 ∧ x.old ≠ [] ∧ x.new ≠ []
  nl : r.lost.length ≤ 20000
  ng : r.gained.length ≤ 20000
  np : r.patches.length ≤ 20000
theorem OkR.turn {r : Rz} (h : OkR r) : OkR (turnZ r) := by
  refine ⟨h.g, h.l, fun x hx => ?_, h.ng, h.nl, by show (r.patches.map turnG).length ≤ 20000; rw [List.length_map]; exact h.np⟩
  obtain ⟨g, hg, rfl⟩ := List.mem_map.1 hx
  obtain ⟨h1, h2, h3⟩ := h.p g hg
  exact ⟨h1, h3, h2⟩
theorem fold_len : ∀ (ds : List Dz) (P : List Gz), (ds.foldl pushD P).length ≤ P.length + ds.length := fun ds P => pushD_fold ds P
theorem merge_lenJ : ∀ (x y : List Cz), (mergeR x y).1.length ≤ x.length ∧ (mergeR x y).2.1.length ≤ y.length ∧ (mergeR x y).2.2.length ≤ x.length := by
  intro x y
  fun_induction mergeR x y with
  | case1 y => simp
  | case2 c x => simp
  | case3 c x d y h r ih => dsimp only; obtain ⟨i1, i2, i3⟩ := ih; simp only [List.length_cons] at i1 i2 i3 ⊢; first | exact ⟨by omega, by omega, by omega⟩ | (refine ⟨?_, ?_, ?_⟩ <;> (simp only [r]; omega)) | exact ⟨by omega, by omega, by omega⟩
  | case4 c x d y h1 h2 r ih => dsimp only; obtain ⟨i1, i2, i3⟩ := ih; simp only [List.length_cons] at i1 i2 i3 ⊢; first | exact ⟨by omega, by omega, by omega⟩ | (refine ⟨?_, ?_, ?_⟩ <;> (simp only [r]; omega)) | exact ⟨by omega, by omega, by omega⟩
  | case5 c x d y h1 h2 h3 r ih => dsimp only; obtain ⟨i1, i2, i3⟩ := ih; simp only [List.length_cons] at i1 i2 i3 ⊢; first | exact ⟨by omega, by omega, by omega⟩ | (refine ⟨?_, ?_, ?_⟩ <;> (simp only [r]; omega)) | exact ⟨by omega, by omega, by omega⟩
  | case6 c x d y h1 h2 h3 h4 r ih => dsimp only; obtain ⟨i1, i2, i3⟩ := ih; simp only [List.length_cons] at i1 i2 i3 ⊢; first | exact ⟨by omega, by omega, by omega⟩ | (refine ⟨?_, ?_, ?_⟩ <;> (simp only [r]; omega)) | exact ⟨by omega, by omega, by omega⟩
  | case7 c x d y h1 h2 h3 h4 ih => simp only [List.length_cons] at ih ⊢; omega
theorem mergeR_len {A B : List Pz} (ha : mayZ A = true) (hb : mayZ B = true) : (mergeR (cellsZ A) (cellsZ B)).1.length ≤ (cellsZ A).length ∧ (mergeR (cellsZ A) (cellsZ B)).2.1.length ≤ (cellsZ B).length ∧ (mergeR (cellsZ A) (cellsZ B)).2.2.length ≤ (cellsZ A).length := by
  exact merge_lenJ _ _
theorem okR_mem {A B : List Pz} (ha : mayZ A = true) (hb : mayZ B = true) (hna : (cellsZ A).length ≤ 20000) (hnb : (cellsZ B).length ≤ 20000) : OkR (memZ A B) := by
  have h := memC_is ha hb
  obtain ⟨p1, p2, p3⟩ := h.pat
  obtain ⟨l1, l2, l3⟩ := mergeR_len ha hb
  have oL := h.okL ha
  have oG := h.okG hb
  have oO := h.okO ha
  have oN := h.okN ha
  refine ⟨fun p hp => ?_, fun p hp => ?_, fun x hx => ?_, ?_, ?_, ?_⟩
  · rw [h.z] at hp
    exact (pieces_ok _ (fun c hc => (oL.ok c hc).1) p hp).1
  · rw [h.z] at hp
    exact (pieces_ok _ (fun c hc => (oG.ok c hc).1) p hp).1
  · have m1 : oldM x ∈ piecesZ ((mergeR (cellsZ A) (cellsZ B)).2.2.map oldC) := by rw [← p1]; exact List.mem_map_of_mem hx
    have m2 : newM x ∈ piecesZ ((mergeR (cellsZ A) (cellsZ B)).2.2.map newC) := by rw [← p2]; exact List.mem_map_of_mem hx
    obtain ⟨q1, q2⟩ := pieces_ok _ (fun c hc => (oO.ok c hc).1) _ m1
    obtain ⟨q3, -⟩ := pieces_ok _ (fun c hc => (oN.ok c hc).1) _ m2
    have q2 : x.at_ + x.old.length ≤ MAXA := q2
    exact ⟨by unfold MAXA at q2; omega, q1, q3⟩
  · rw [h.z]; have := pieces_len (mergeR (cellsZ A) (cellsZ B)).1; show (piecesZ _).length ≤ _; omega
  · rw [h.z]; have := pieces_len (mergeR (cellsZ A) (cellsZ B)).2.1; show (piecesZ _).length ≤ _; omega
  · rw [h.z]; have := fold_len (mergeR (cellsZ A) (cellsZ B)).2.2 []; simp only [List.length_nil] at this; show (List.foldl pushD [] _).length ≤ _; omega

/-- A value that reads as rows. -/
structure RowsV (W : World) (val : Value) (r : Rz) : Prop where
  ex : ∃ (p1 : Option Addr) (n1 c1 : Nat) (p2 : Option Addr) (n2 c2 : Nat) (p3 : Option Addr) (n3 c3 : Nat) (Ll Lg : List PzV) (Lp : List PaV), val = .agg #[.slice p1 n1 c1, .slice p2 n2 c2, .slice p3 n3 c3] ∧ PzsAt W (.slice p1 n1 c1) Ll ∧ PzsAt W (.slice p2 n2 c2) Lg ∧ PasAt W (.slice p3 n3 c3) Lp ∧ rzV Ll Lg Lp = r
  ok : OkR r
theorem RowsV.below {W W' : World} {val : Value} {r : Rz} (h : RowsV W val r) (hb : Below W.heap.size W W') : RowsV W' val r := by
  obtain ⟨p1, n1, c1, p2, n2, c2, p3, n3, c3, Ll, Lg, Lp, e, h1, h2, h3, h4⟩ := h.ex
  exact ⟨⟨p1, n1, c1, p2, n2, c2, p3, n3, c3, Ll, Lg, Lp, e, h1.below hb, h2.below hb, h3.below hb, h4⟩, h.ok⟩
theorem rv_turn {W : World} {val : Value} {r : Rz} (h : RowsV W val r) : Calls Try.prog 22 #[val] W fun e w' => ∃ val', e = .returned val' ∧ Below W.heap.size W w' ∧ RowsV w' val' (turnZ r) := by
  obtain ⟨p1, n1, c1, p2, n2, c2, p3, n3, c3, Ll, Lg, Lp, rfl, h1, h2, h3, rfl⟩ := h.ex
  have hl := h.ok.nl
  have hg := h.ok.ng
  have hp := h.ok.np
  simp only [rzV, List.length_map] at hl hg hp
  refine (bd_turn W _ _ _ Ll Lg Lp h1 h2 h3 (fun x hx => h.ok.l x.m (List.mem_map_of_mem hx)) (fun x hx => h.ok.g x.m (List.mem_map_of_mem hx)) (fun x hx => (h.ok.p x.m (List.mem_map_of_mem hx)).2) (by omega) (by omega) (by omega)).mono ?_
  rintro e w' ⟨va, vb, vq, La, Lb, Lq, rfl, hb, k1, k2, k3, k4, ⟨q1, m1, d1, rfl⟩, ⟨q2, m2, d2, rfl⟩, ⟨q3, m3, d3, rfl⟩⟩
  exact ⟨_, rfl, hb, ⟨_, _, _, _, _, _, _, _, _, La, Lb, Lq, rfl, k1, k2, k3, k4⟩, h.ok.turn⟩
theorem rv_may {W : World} {val : Value} {r : Rz} (h : RowsV W val r) : Calls Try.prog 20 #[val] W fun e w' => e = .returned (.bool (mayRowsZ r)) ∧ Below W.heap.size W w' := by
  obtain ⟨p1, n1, c1, p2, n2, c2, p3, n3, c3, Ll, Lg, Lp, rfl, h1, h2, h3, rfl⟩ := h.ex
  have hl := h.ok.nl
  have hg := h.ok.ng
  have hp := h.ok.np
  simp only [rzV, List.length_map] at hl hg hp
  exact bd_mayRows W _ _ _ Ll Lg Lp h1 h2 h3 (fun x hx => (h.ok.p x.m (List.mem_map_of_mem hx)).1) (by omega) (by omega) (by omega)
theorem rv_same {W : World} {v1 v2 : Value} {r : Rz} (h : RowsV W v1 r) (k : RowsV W v2 r) : Calls Try.prog 13 #[v1, v2] W fun e w' => e = .returned (.bool true) ∧ Below W.heap.size W w' := by
  obtain ⟨p1, n1, c1, p2, n2, c2, p3, n3, c3, Ll, Lg, Lp, rfl, h1, h2, h3, h4⟩ := h.ex
  obtain ⟨p1, n1, c1, p2, n2, c2, p3, n3, c3, Ml, Mg, Mp, rfl, k1, k2, k3, k4⟩ := k.ex
  have hl := h.ok.nl
  have hg := h.ok.ng
  have hp := h.ok.np
  rw [← h4] at hl hg hp
  simp only [rzV, List.length_map] at hl hg hp
  exact br_rows W _ _ _ _ _ _ Ll Lg Ml Mg Lp Mp h1 h2 h3 k1 k2 k3 (h4.trans k4.symm) (by omega) (by omega) (by omega)
theorem rv_lay {W : World} {va val : Value} {A : List PzV} {r : Rz} (hA : PzsAt W va A) (hn : A.length ≤ 20000) (hc : (cellsZ (A.map PzV.m)).length ≤ 20000) (h : RowsV W val r) : Calls Try.prog 18 #[va, val] W (LayEnd W (layZ (A.map PzV.m) r)) := by
  obtain ⟨p1, n1, c1, p2, n2, c2, p3, n3, c3, Ll, Lg, Lp, rfl, h1, h2, h3, rfl⟩ := h.ex
  have hl := h.ok.nl
  have hg := h.ok.ng
  have hp := h.ok.np
  simp only [rzV, List.length_map] at hl hg hp
  exact bd_lay W va _ _ _ A Ll Lg Lp hA h1 h2 h3 (fun x hx => (h.ok.p x.m (List.mem_map_of_mem hx)).1) hn (by omega) (by omega) (by omega) hc
/-- What Memory gives, as rows. -/
theorem mem_rows {w w' : World} {A B : List Pz} {n : Int} {e : Ending} (hok : OkR (memZ A B)) (h : MemEndG w (memZ A B) n e w') : ∃ p1 n1 c1 p2 n2 c2 p3 n3 c3, e = .returned (.tuple #[.agg #[.slice p1 n1 c1, .slice p2 n2 c2, .slice p3 n3 c3], .int .i64 n]) ∧ Below w.heap.size w w' ∧ RowsV w' (.agg #[.slice p1 n1 c1, .slice p2 n2 c2, .slice p3 n3 c3]) (memZ A B) ∧ n1 = (memZ A B).lost.length ∧ n2 = (memZ A B).gained.length ∧ n3 = (memZ A B).patches.length := by
  obtain ⟨X, vl, vg, vp, Ll, Lg, Lp, rfl, hb, hv, hz⟩ := h
  obtain ⟨l1, l2, l3, rfl⟩ := own_form hv.l.own
  obtain ⟨g1, g2, g3, rfl⟩ := own_form hv.g.own
  obtain ⟨p1, p2, p3, rfl⟩ := own_form hv.p.own
  have r1 := OwnPz.reads hv.l
  have r2 := OwnPz.reads hv.g
  have r3 := OwnPa.reads hv.p
  refine ⟨_, _, _, _, _, _, _, _, _, rfl, hb, ⟨⟨_, _, _, _, _, _, _, _, _, Ll, Lg, Lp, rfl, r1, r2, r3, hz⟩, hok⟩, ?_, ?_, ?_⟩
  · rw [← hz]; show l2 = (Ll.map PzV.m).length; rw [List.length_map]; exact (RowsAt.len' r1.rows).symm
  · rw [← hz]; show g2 = (Lg.map PzV.m).length; rw [List.length_map]; exact (RowsAt.len' r2.rows).symm
  · rw [← hz]; show p2 = (Lp.map PaV.m).length; rw [List.length_map]; exact (RowsAt.len' r3.rows).symm
end Go.Proofs.Ythlnjfnjmjdohaa
