/- Slices of symbols: how they read; and the reference's Same over two that are the same. -/
import Derived.Test.YtdckfcpjdakjaaaRefD
namespace Go.Proofs.Ytdckfcpjdakjaaa
set_option linter.unusedSimpArgs false
set_option linter.unusedVariables false
open Go.RowKit Go.Maps

/-- The value v reads in w as the symbols l: nil or not. -/
def SS (w : World) (v : Value) (l : List Sym) : Prop :=
  ∃ (a : Option Addr) (cap : Nat), v = .slice a l.length cap ∧ l.length ≤ cap ∧ l.length ≤ 140737488355328 ∧
    (l ≠ [] → ∃ g off, a = some ⟨g, off, none⟩ ∧ ∀ k s, l[k]? = some s → w.cell? ⟨g, off + k * 4, none⟩ = some (.string (mkS s.name)) ∧ w.cell? ⟨g, off + k * 4 + 1, none⟩ = some (.int .i64 s.sect) ∧ w.cell? ⟨g, off + k * 4 + 2, none⟩ = some (.int .u64 s.val) ∧ w.cell? ⟨g, off + k * 4 + 3, none⟩ = some (.bool s.weak))

theorem SS.below {w w' : World} {v : Value} {l : List Sym} (h : SS w v l) (hb : Below w.heap.size w w') : SS w' v l := by
  obtain ⟨a, cap, rfl, h1, h2, h3⟩ := h
  refine ⟨a, cap, rfl, h1, h2, fun hne => ?_⟩
  obtain ⟨g, off, rfl, hc⟩ := h3 hne
  have hk : ∀ (p : Addr) u, w.cell? p = some u → w'.cell? p = some u := fun p u hp => (hb.cell (World.block_lt_of_cell? w p hp)).trans hp
  exact ⟨g, off, rfl, fun k s hs => ⟨hk _ _ (hc k s hs).1, hk _ _ (hc k s hs).2.1, hk _ _ (hc k s hs).2.2.1, hk _ _ (hc k s hs).2.2.2⟩⟩

theorem SS.of_owns {w : World} {base : Nat} {v : Value} {l : List Sym} (h : w.ownsRow base 30 4 v l.length (symsCells l)) (hl : l.length ≤ 140737488355328) : SS w v l := by
  have h0 := h
  rcases h.2 with ⟨rfl, hn⟩ | ⟨g, cap, cur, rfl, hb, hg, hnc, hcm, rest⟩
  · have : l = [] := List.eq_nil_of_length_eq_zero hn
    subst this
    exact ⟨none, 0, rfl, Nat.le_refl _, by simp, fun h => absurd rfl h⟩
  · refine ⟨_, cap, rfl, hnc, hl, fun hne => ?_⟩
    obtain ⟨g', e, _, hc⟩ := ownsSyms_at h0 rfl (List.length_pos_iff.2 hne)
    cases e
    exact ⟨g, 0, rfl, fun k s hs => by rw [Nat.zero_add]; exact hc k s hs⟩

theorem SS.len {w : World} {a : Option Addr} {n cap : Nat} {l : List Sym} (h : SS w (.slice a n cap) l) : l.length = n := by
  obtain ⟨a', cap', he, _⟩ := h
  cases he; rfl

theorem SS.form {w : World} {v : Value} {l : List Sym} (h : SS w v l) : ∃ a cap, v = .slice a l.length cap := by
  obtain ⟨a, cap, rfl, _⟩ := h
  exact ⟨a, cap, rfl⟩

theorem SS.at {w : World} {a : Option Addr} {n cap : Nat} {l : List Sym} (h : SS w (.slice a n cap) l) (hn : 0 < n) :
    ∃ g off, a = some ⟨g, off, none⟩ ∧ ∀ k s, l[k]? = some s → w.cell? ⟨g, off + k * 4, none⟩ = some (.string (mkS s.name)) ∧ w.cell? ⟨g, off + k * 4 + 1, none⟩ = some (.int .i64 s.sect) ∧ w.cell? ⟨g, off + k * 4 + 2, none⟩ = some (.int .u64 s.val) ∧ w.cell? ⟨g, off + k * 4 + 3, none⟩ = some (.bool s.weak) := by
  obtain ⟨a', cap', he, h1, h2, h3⟩ := h
  cases he
  exact h3 (by intro e; rw [e] at hn; exact absurd hn (by simp))

set_option maxHeartbeats 400000 in
theorem ref_same (w : World) (v1 v2 : Value) (l : List Sym) (h1 : SS w v1 l) (h2 : SS w v2 l) :
    Calls Try.prog 12 #[v1, v2] w fun e w' => e = .returned (.bool true) ∧ ∃ q, w' = w.drewN q := by
  obtain ⟨a1, c1, rfl⟩ := h1.form
  obtain ⟨a2, c2, rfl⟩ := h2.form
  have hll : l.length ≤ 140737488355328 := by obtain ⟨_, _, _, _, h, _⟩ := h1; exact h
  have hne : ((l.length : Int) != (l.length : Int)) = false := by simp
  have H := hid (And.intro h1 h2)
  clear h1 h2
  go_enter Try.func12, Try.ntmps12
  go_wp2_with fail
  go_loopw [5] (fun i wr => ∃ k q : Nat, k ≤ l.length ∧ i = .int .i64 (k : Int) ∧ wr = w.drewN q) (fun i _ => l.length - (intOf i).toNat)
  case atStart => exact ⟨0, 0, Nat.zero_le _, rfl, rfl⟩
  case round =>
    obtain ⟨k, q, hk, rfl, rfl⟩ := hrel
    by_cases hlt : k < l.length
    · obtain ⟨g1, o1, rfl, hc1⟩ := H.out.1.at (by omega)
      obtain ⟨g2, o2, rfl, hc2⟩ := H.out.2.at (by omega)
      obtain ⟨s, hs⟩ : ∃ s, l[k]? = some s := ⟨_, List.getElem?_eq_getElem hlt⟩
      obtain ⟨x0, x1, x2, x3⟩ := hc1 k s hs
      obtain ⟨y0, y1, y2, y3⟩ := hc2 k s hs
      clear hc1 hc2 hs
      go_wp2
      go_quiet (fail)
      go_wp2
      go_roundw
      case rel => exact ⟨k + 1, _, by omega, by go_num, rfl⟩
      case measure => simp [intOf]; omega
    · go_wp2
      go_ret
      exact ⟨rfl, _, rfl⟩

end Go.Proofs.Ytdckfcpjdakjaaa
