/- Jobs, and what is told, at their bounds. -/
import Derived.Test.YtfkpbgookilhjaaGreatDoorZScBa
namespace Go.Proofs.YtfkpbgookilhjaaGreatDoor
set_option linter.unusedSimpArgs false
set_option linter.unusedVariables false
open Go.RowKit

def zF : FileV := ⟨[], none, 0, 0, []⟩
theorem bs_nilB (W : World) : BigBS W none 0 0 [] := ⟨rfl, fun _ => ⟨none, 0, rfl, Nat.le_refl _, ⟨Nat.zero_le _, by simp⟩, fun h => absurd rfl h⟩⟩

/-- What stands: the files in bF, the names in bS. -/
structure BdIn (w W : World) (bF bS : Nat) : Prop where
  fs : W.heap[bF]? = some (.cells (madeCells #[.string (mkS []), .slice none 0 0] 130) 39 (0, 0))
  ss : W.heap[bS]? = some (.cells (madeCells #[.string (mkS [])] 65) 9 (0, 0))
  et : ET W
  bel : Below w.heap.size w W
theorem BdIn.below {w W W' : World} {bF bS : Nat} (h : BdIn w W bF bS) (hb : Below W.heap.size W W') : BdIn w W' bF bS :=
  ⟨(hb.block _ (Array.getElem?_eq_some_iff.1 h.fs).1).trans h.fs, (hb.block _ (Array.getElem?_eq_some_iff.1 h.ss).1).trans h.ss, h.et.below h.et.lt hb, h.bel.trans (hb.mono h.bel.size)⟩
theorem BdIn.files {w W : World} {bF bS : Nat} (h : BdIn w W bF bS) (m : Nat) (hm : m ≤ 65) : FilesAt W (.slice (some ⟨bF, 0, none⟩) (List.replicate m zF).length 65) (List.replicate m zF) := by
  rw [List.length_replicate]
  exact rows_made FileV.cells zF 2 rfl (n := 65) (m := m) h.fs hm (by decide)
theorem BdIn.names {w W : World} {bF bS : Nat} (h : BdIn w W bF bS) (m : Nat) (hm : m ≤ 65) : StrsAt W (.slice (some ⟨bS, 0, none⟩) (List.replicate m ([] : List UInt8)).length 65) (List.replicate m []) := by
  rw [List.length_replicate]
  exact rows_made strC ([] : List UInt8) 1 rfl (n := 65) (m := m) h.ss hm (by decide)
theorem zF_each {W : World} (m : Nat) : ∀ f ∈ List.replicate m zF, BigBS W f.p f.n f.cap f.bytes := fun f hf => by
  obtain rfl := List.eq_of_mem_replicate hf
  exact bs_nilB W

def jA (bF bS : Nat) : JobV := ⟨some ⟨bF, 0, none⟩, 65, List.replicate 64 zF, zB 255, some ⟨bS, 0, none⟩, 65, List.replicate 64 [], 2, 0, false⟩
def jB (bF : Nat) : JobV := ⟨some ⟨bF, 0, none⟩, 65, List.replicate 65 zF, [], none, 0, [], 2, 0, false⟩
def jC (bS : Nat) : JobV := ⟨none, 0, [], [], some ⟨bS, 0, none⟩, 65, List.replicate 65 [], 2, 0, false⟩
def jD (main : List UInt8) (arch : Int) : JobV := ⟨none, 0, [], main, none, 0, [], arch, 0, false⟩
def jE (b g n : Nat) : JobV := ⟨some ⟨b, 0, none⟩, 1, [⟨[], some ⟨g, 0, none⟩, n, n, zB n⟩], [], none, 0, [], 1, 0, false⟩
def jF (b : Nat) : JobV := ⟨none, 0, [], [], some ⟨b, 0, none⟩, 1, [zB 256], 1, 0, false⟩

theorem mayA (bF bS : Nat) : mayJ (jA bF bS).m = true := by
  show mayJ ⟨List.replicate 64 ⟨[], []⟩, zB 255, List.replicate 64 [], 2, 0, false⟩ = true
  decide +kernel
theorem mayB (bF : Nat) : mayJ (jB bF).m = false := by
  show mayJ ⟨List.replicate 65 ⟨[], []⟩, [], [], 2, 0, false⟩ = false
  decide +kernel
theorem mayC (bS : Nat) : mayJ (jC bS).m = false := by
  show mayJ ⟨[], [], List.replicate 65 [], 2, 0, false⟩ = false
  decide +kernel
theorem mayD : mayJ (jD (zB 256) 1).m = false := by decide +kernel
theorem mayD0 : mayJ (jD [] 0).m = false := by decide +kernel
theorem mayD3 : mayJ (jD [] 3).m = false := by decide +kernel
theorem mayE (b g n : Nat) : mayJ (jE b g n).m = !decide (1048576 < n) := by
  show mayJ ⟨[⟨[], zB n⟩], [], [], 1, 0, false⟩ = _
  unfold mayJ
  simp [longF, zB_length]
theorem mayF (b : Nat) : mayJ (jF b).m = false := by
  show mayJ ⟨[], [], [zB 256], 1, 0, false⟩ = false
  decide +kernel

theorem z64 : (0 : Nat) < 2 ^ 64 := by decide
theorem jA_at {w W : World} {bF bS : Nat} (h : BdIn w W bF bS) : JobAt W (jA bF bS) := ⟨h.files 64 (by omega), zF_each 64, h.names 64 (by omega), z64⟩
theorem jB_at {w W : World} {bF bS : Nat} (h : BdIn w W bF bS) : JobAt W (jB bF) := ⟨h.files 65 (by omega), zF_each 65, RowsAt.nil W, z64⟩
theorem jC_at {w W : World} {bF bS : Nat} (h : BdIn w W bF bS) : JobAt W (jC bS) := ⟨RowsAt.nil W, by simp [jC], h.names 65 (by omega), z64⟩
theorem jD_at (W : World) (main : List UInt8) (arch : Int) : JobAt W (jD main arch) := ⟨RowsAt.nil W, by simp [jD], RowsAt.nil W, z64⟩
/-- Bytes that were made are bytes. -/
theorem big_made {W : World} {g n : Nat} {fr : Nat × Nat} (h : W.heap[g]? = some (.cells (u8s (zB n)).toArray 5 fr)) : BigBS W (some ⟨g, 0, none⟩) n n (zB n) := by
  refine ⟨zB_length n, fun hn => ⟨some ⟨g, 0, none⟩, n, by rw [zB_length], by rw [zB_length]; exact Nat.le_refl _, ⟨Nat.le_trans hn (by decide), by rw [zB_length]; exact hn⟩, fun _ => ⟨g, 0, rfl, fun i x hx => ?_⟩⟩⟩
  simp only [World.cell?, h, Nat.zero_add]
  simp [u8s, hx]
theorem rows_one {α : Type} (cs : α → List Value) (x : α) (k : Nat) {W : World} {b : Nat} {t : TypeId} {fr : Nat × Nat} (h : W.heap[b]? = some (.cells (cs x).toArray t fr)) : RowsAt cs k W (.slice (some ⟨b, 0, none⟩) 1 1) [x] := by
  refine ⟨some ⟨b, 0, none⟩, 1, rfl, Nat.le_refl _, by decide, fun _ => ⟨b, 0, rfl, fun i y hy c u hu => ?_⟩⟩
  match i, hy with
  | 0, hy =>
    cases hy
    simp only [World.cell?, h, Nat.zero_add, Nat.zero_mul]
    simpa using hu
theorem jE_at {W : World} {b g n : Nat} {f1 f2 : Nat × Nat} (hg : W.heap[g]? = some (.cells (u8s (zB n)).toArray 5 f1)) (hb : W.heap[b]? = some (.cells #[.string (mkS []), .slice (some ⟨g, 0, none⟩) n n] 39 f2)) : JobAt W (jE b g n) :=
  ⟨rows_one FileV.cells ⟨[], some ⟨g, 0, none⟩, n, n, zB n⟩ 2 hb, fun f hf => by obtain rfl := List.mem_singleton.1 hf; exact big_made hg, RowsAt.nil W, z64⟩
theorem jF_at {W : World} {b : Nat} {f2 : Nat × Nat} (hb : W.heap[b]? = some (.cells #[.string (mkS (zB 256))] 9 f2)) : JobAt W (jF b) :=
  ⟨RowsAt.nil W, by simp [jF], rows_one strC (zB 256) 1 hb, z64⟩

/-- What is told: one piece of n bytes; and one more. -/
def pcB (g n : Nat) : PieceV := ⟨0, 0, some ⟨g, 0, none⟩, n, n, zB n⟩
def tB (b g n : Nat) : ToldV := ⟨0, [], 0, none, 0, [], some ⟨b, 0, none⟩, 1, [pcB g n], none, 0, [], 0⟩
def tC (p : Option Addr) (c g n : Nat) : ToldV := ⟨0, [], 0, none, 0, [], p, c, [pcB g n, ⟨0, 0, none, 0, 0, []⟩], none, 0, [], 0⟩
def tZ (ph er : Int) (entry : Nat) : ToldV := ⟨ph, [], er, none, 0, [], none, 0, [], none, 0, [], entry⟩
theorem tZ_at (W : World) (ph er : Int) (entry : Nat) (h : entry < 2 ^ 64) : ToldAt W (tZ ph er entry) := ⟨RowsAt.nil W, by simp [tZ], by simp [tZ], RowsAt.nil W, by simp [tZ], by simp [tZ], RowsAt.nil W, by simp [tZ], h⟩
theorem tZ_small (ph er : Int) (entry : Nat) : Small (tZ ph er entry) := by unfold Small tZ; simp
theorem tB_at {W : World} {b g n : Nat} {f1 f2 : Nat × Nat} (hg : W.heap[g]? = some (.cells (u8s (zB n)).toArray 5 f1)) (hb : W.heap[b]? = some (.cells #[.int .u64 0, .int .i64 0, .slice (some ⟨g, 0, none⟩) n n] 41 f2)) : ToldAt W (tB b g n) :=
  ⟨RowsAt.nil W, by simp [tB], by simp [tB], rows_one PieceV.cells (pcB g n) 3 hb, fun f hf => by obtain rfl := List.mem_singleton.1 hf; exact big_made hg, fun f hf => by obtain rfl := List.mem_singleton.1 hf; exact z64, RowsAt.nil W, by simp [tB], z64⟩
theorem tC_at {W : World} {p : Option Addr} {c g n : Nat} {f1 : Nat × Nat} (hg : W.heap[g]? = some (.cells (u8s (zB n)).toArray 5 f1)) (hb : RowsAt PieceV.cells 3 W (.slice p 2 c) [pcB g n, ⟨0, 0, none, 0, 0, []⟩]) : ToldAt W (tC p c g n) := by
  have hm : ∀ f : PieceV, f ∈ (tC p c g n).mem → f = pcB g n ∨ f = ⟨0, 0, none, 0, 0, []⟩ := fun f hf => by simpa [tC] using hf
  refine ⟨RowsAt.nil W, by simp [tC], by simp [tC], hb, fun f hf => ?_, fun f hf => ?_, RowsAt.nil W, by simp [tC], z64⟩
  · rcases hm f hf with rfl | rfl
    · exact big_made hg
    · exact bs_nilB W
  · rcases hm f hf with rfl | rfl <;> exact z64
theorem may_tB (b g n : Nat) (hn : n ≤ 67108832) : mayT (tB b g n).m = true := by
  show mayT ⟨0, [], 0, [], [⟨0, 0, zB n⟩], [], 0⟩ = true
  have h1 : ¬ 67108864 < n := by omega
  have h2 : 19 + (13 + n) ≤ 67108864 := by omega
  simp [mayT, mayLinked, badP, allT, sizP, inB2, zB_length, h1, h2]
theorem may_tC (p : Option Addr) (c g n : Nat) (hn : 67108832 ≤ n) : mayT (tC p c g n).m = false := by
  show mayT ⟨0, [], 0, [], [⟨0, 0, zB n⟩, ⟨0, 0, []⟩], [], 0⟩ = false
  have h2 : ¬ 19 + (13 + n + 13) ≤ 67108864 := by omega
  simp [mayT, mayLinked, badP, allT, sizP, inB2, zB_length, h2]
theorem may_tZ (ph er : Int) (entry : Nat) : mayT (tZ ph er entry).m = mayT ⟨ph, [], er, [], [], [], entry⟩ := rfl

/-- A slice of the call's own, as rows. -/
theorem rows_own {α : Type} {cs : α → List Value} {k : Nat} {W : World} {base : Nat} {e : TypeId} {v : Value} {l : List α} (hk : ∀ x, (cs x).length = k) (h : W.ownsRow base e k v l.length (l.flatMap cs)) (hl : l ≠ []) : RowsAt cs k W v l := by
  obtain ⟨hlen, ⟨rfl, h0⟩ | ⟨g, cap, cur, rfl, -, hb, h1, h2, h3, h4⟩⟩ := h
  · exact absurd (List.length_eq_zero_iff.1 h0) hl
  · refine ⟨some ⟨g, 0, none⟩, cap, rfl, h1, h2, fun _ => ⟨g, 0, rfl, fun i x hx c u hu => ?_⟩⟩
    have key : ∀ (l : List α) (i : Nat), l[i]? = some x → (l.flatMap cs)[i * k + c]? = some u := by
      intro l
      induction l with
      | nil => intro i h; simp at h
      | cons a t ih =>
        intro i hi
        rw [List.flatMap_cons]
        cases i with
        | zero =>
          cases hi
          rw [Nat.zero_mul, Nat.zero_add, List.getElem?_append_left (List.getElem?_eq_some_iff.1 hu).1]
          exact hu
        | succ j =>
          rw [List.getElem?_append_right (by rw [hk, Nat.add_mul]; omega), hk, show (j + 1) * k + c - k = j * k + c by rw [Nat.add_mul]; omega]
          exact ih j (by simpa using hi)
    have hu' := key l i hx
    rw [← h4, List.getElem?_take] at hu'
    split at hu'
    case isFalse => cases hu'
    case isTrue => simp only [World.cell?, hb, Nat.zero_add]; simpa using hu'
end Go.Proofs.YtfkpbgookilhjaaGreatDoor
