/- Slices of structs that came in, whatever the structs: how they read, how they are opened. -/
import Derived.Test.YtjfkgdfmkofbmaaGreatDoorZOpen
import Derived.Lib.SmallJoins
import Derived.Deep.Slices
import Derived.Deep.Fields
import Derived.ChangeSame
namespace Go.Proofs.YtjfkgdfmkofbmaaGreatDoor
set_option linter.unusedSimpArgs false
set_option linter.unusedVariables false
open Go.ChangeShapes Go.WideShapes Go.ChangeAt Go.RowKit Go.Joins Go.Deep

/-- The slice v reads as the structs l, each of k cells. -/
def RowsAt {α : Type} (cs : α → List Value) (k : Nat) (w : World) (v : Value) (l : List α) : Prop :=
  ∃ (p : Option Addr) (cap : Nat), v = .slice p l.length cap ∧ l.length ≤ cap ∧ cap ≤ maxLen ∧
    (l ≠ [] → ∃ b off, p = some ⟨b, off, none⟩ ∧ ∀ i x, l[i]? = some x → ∀ c u, (cs x)[c]? = some u → w.cell? ⟨b, off + i * k + c, none⟩ = some u)

section
variable {α : Type} {cs : α → List Value} {k : Nat}
theorem RowsAt.nil (w : World) : RowsAt cs k w (.slice none 0 0) [] := ⟨none, 0, rfl, Nat.le_refl _, Nat.zero_le _, fun h => absurd rfl h⟩
theorem RowsAt.form {w : World} {v : Value} {l : List α} (h : RowsAt cs k w v l) : ∃ a cap, v = .slice a l.length cap := by
  obtain ⟨a, cap, rfl, _⟩ := h; exact ⟨a, cap, rfl⟩
theorem RowsAt.len {w : World} {v : Value} {l : List α} (h : RowsAt cs k w v l) : l.length ≤ maxLen := by obtain ⟨a, cap, rfl, h1, h2, _⟩ := h; exact Nat.le_trans h1 h2
theorem RowsAt.len' {w : World} {p : Option Addr} {n cap : Nat} {l : List α} (h : RowsAt cs k w (.slice p n cap) l) : l.length = n := by
  obtain ⟨a, c, he, -⟩ := h; cases he; rfl
theorem RowsAt.at {w : World} {a : Option Addr} {n cap : Nat} {l : List α} (h : RowsAt cs k w (.slice a n cap) l) {i : Nat} {x : α} (hx : l[i]? = some x) :
    ∃ g off, a = some ⟨g, off, none⟩ ∧ ∀ c u, (cs x)[c]? = some u → w.cell? ⟨g, off + i * k + c, none⟩ = some u := by
  obtain ⟨a', cap', he, h1, h2, h3⟩ := h
  cases he
  obtain ⟨g, off, rfl, hc⟩ := h3 (by intro e; rw [e] at hx; simp at hx)
  exact ⟨g, off, rfl, hc i x hx⟩
theorem RowsAt.of_block {w w' : World} {v : Value} {l : List α} (h : RowsAt cs k w v l) (hk : ∀ x ∈ l, ∃ u, (cs x)[0]? = some u) (hb : ∀ j, inBlk v j → j < w.heap.size → w'.heap[j]? = w.heap[j]?) : RowsAt cs k w' v l := by
  obtain ⟨p, cap, rfl, h1, h2, h3⟩ := h
  refine ⟨p, cap, rfl, h1, h2, fun hne => ?_⟩
  obtain ⟨b, off, rfl, hc⟩ := h3 hne
  refine ⟨b, off, rfl, fun i x hx c u hu => ?_⟩
  have hi := hc i x hx c u hu
  rw [← hi]
  exact World.cell?_of_block (hb b ⟨List.length_pos_iff.2 hne, rfl⟩ (World.block_lt_of_cell? w _ hi))
theorem RowsAt.below {w w' : World} {v : Value} {l : List α} (h : RowsAt cs k w v l) (hb : Below w.heap.size w w') : RowsAt cs k w' v l := by
  obtain ⟨p, cap, rfl, h1, h2, h3⟩ := h
  refine ⟨p, cap, rfl, h1, h2, fun hne => ?_⟩
  obtain ⟨b, off, rfl, hc⟩ := h3 hne
  refine ⟨b, off, rfl, fun i x hx c u hu => ?_⟩
  have hi := hc i x hx c u hu
  rw [← hi]
  exact World.cell?_of_block (hb.block b (World.block_lt_of_cell? w _ hi))
end

section
variable {H : Type} {enc : TypeId × Value → H} {P : Program} {W : World} {base base' : Nat} {sp : Nat → Bool} {held : Bool}

/-- A slice of structs is opened, where a struct is. -/
theorem open_rows_of {α : Type} [Inhabited α] {cs : α → List Value} {k : Nat} (Q : α → Prop) {t e : TypeId} {fuel : Nat} {c0 : List Value} {x0 : DataW H × List MemPlace} (ht : P.underlying t = some (.slice e)) (hC : P.cellsOf e = k) (hk : 0 < k) (hlen : ∀ x, (cs x).length = k)
    (hone : ∀ (n : Nat) (c : List Value) (y : DataW H × List MemPlace), DataW.trod enc P W base sp held n e c = some y → ∃ x, c = cs x ∧ Q x)
    (hf : DataW.trod enc P W base sp held fuel t c0 = some x0) :
    ∃ a len cap, c0 = [.slice a len cap] ∧ ∃ l : List α, RowsAt cs k W (.slice a len cap) l ∧ ∀ x ∈ l, Q x := by
  rcases open_slice ht hf with ⟨hcs, _⟩ | ⟨x, l, c, m, n, D, Pl, hcs, _, hl, hm, hmm, _, hi⟩
  · exact ⟨none, 0, 0, hcs, [], RowsAt.nil W, by simp⟩
  · refine ⟨some x, l, c, hcs, ?_⟩
    have hlm : l ≤ m := by rw [hmm]; split <;> omega
    rw [hC] at hi
    have hex : ∀ i, ∃ s : α, i < l → ((∀ j, j < k → W.cell? (x.add (i * k + j)) = (cs s)[j]?) ∧ Q s) := by
      intro i
      by_cases hlt : i < l
      · obtain ⟨cs', hc, htr⟩ := hi i (by omega)
        obtain ⟨s, rfl, hin⟩ := hone _ _ _ htr
        obtain ⟨-, -, hcell⟩ := World.cells?_some hc
        exact ⟨s, fun _ => ⟨fun j hj => by rw [← Go.Deep.add_add]; exact hcell j hj, hin⟩⟩
      · exact ⟨default, fun h => absurd h hlt⟩
    obtain ⟨f, hfs⟩ := Classical.axiomOfChoice hex
    have hget : ∀ i s, ((List.range l).map f)[i]? = some s → i < l ∧ s = f i := by
      intro i s hs
      have hk' : i < l := by have := (List.getElem?_eq_some_iff.1 hs).1; simpa using this
      rw [List.getElem?_map, List.getElem?_range hk'] at hs
      simp at hs
      exact ⟨hk', hs.symm⟩
    refine ⟨(List.range l).map f, ⟨some x, c, by simp, by simpa using hl, hm, fun hne => ?_⟩, fun s hs' => ?_⟩
    · have hpos : 0 < l := by
        have := List.length_pos_iff.2 hne
        simpa using this
      obtain ⟨b, off, spot⟩ := x
      have h0 := (hfs 0 hpos).1 0 hk
      have hu0 : ∃ u, (cs (f 0))[0]? = some u := ⟨_, List.getElem?_eq_getElem (by rw [hlen]; exact hk)⟩
      obtain ⟨u, hu⟩ := hu0
      rw [hu] at h0
      have h0' : W.cell? (Addr.add ⟨b, off, spot⟩ 0) = some u := by simpa using h0
      have hspot : spot = none := by simpa [Addr.add] using World.cell?_spot h0'
      subst hspot
      refine ⟨b, off, rfl, fun i s hs c u hu => ?_⟩
      obtain ⟨hk', rfl⟩ := hget i s hs
      have hc := (hfs i hk').1
      have ea : ∀ i, (⟨b, off, none⟩ : Addr).add i = ⟨b, off + i, none⟩ := fun i => by unfold Addr.add; split <;> simp_all
      simp only [ea] at hc
      have hcl : c < k := by have := (List.getElem?_eq_some_iff.1 hu).1; rwa [hlen] at this
      rw [Nat.add_assoc, hc c hcl]; exact hu
    · obtain ⟨i, hi', rfl⟩ := List.mem_map.1 hs'
      exact (hfs i (List.mem_range.1 hi')).2

/-- The bytes of a slice, however long it is. -/
def BigBS (w : World) (p : Option Addr) (n cap : Nat) (l : List UInt8) : Prop := l.length = n ∧ (n ≤ 140737488355328 → BS w (.slice p n cap) l)

theorem open_bytes {t e : TypeId} {fuel : Nat} {c0 : List Value} {x0 : DataW H × List MemPlace} (ht : P.underlying t = some (.slice e)) (he : P.underlying e = some (.int .u8)) (hc : P.cellsOf e = 1) (hf : DataW.trod enc P W base sp held fuel t c0 = some x0) :
    ∃ a len cap, c0 = [.slice a len cap] ∧ ∃ l, BigBS W a len cap l := by
  rcases open_ints ht he hc hf with ⟨hcs, _⟩ | ⟨x, l, c, zs, hcs, _, hl, hm, hz, _, hcell, hwz⟩
  · exact ⟨none, 0, 0, hcs, [], rfl, fun _ => ⟨none, 0, rfl, Nat.le_refl _, ⟨Nat.zero_le _, by simp⟩, fun h => absurd rfl h⟩⟩
  · refine ⟨some x, l, c, hcs, ?_⟩
    by_cases hbig : l ≤ 140737488355328
    · have hz' : l ≤ zs.length := by rw [hz]; split <;> omega
      obtain ⟨xs, hxs⟩ := u8s_of ((zs.take l).map (Value.int .u8)) (fun v hv => by
        obtain ⟨n, hn, rfl⟩ := List.mem_map.1 hv
        obtain ⟨x, rfl⟩ := byte_of (hwz n (List.mem_of_mem_take hn))
        exact ⟨x, rfl⟩)
      have hlen : xs.length = l := by
        have := congrArg List.length hxs
        simp [u8s] at this; omega
      refine ⟨xs, hlen, fun _ => ⟨some x, c, by rw [hlen], by omega, ⟨hm, by omega⟩, fun hne => ?_⟩⟩
      have hpos : 0 < l := by rw [← hlen]; exact List.length_pos_iff.2 hne
      obtain ⟨b, off, spot⟩ := x
      have h0 := hcell 0 (by omega)
      have hspot : spot = none := by simpa [Addr.add] using World.cell?_spot h0
      subst hspot
      refine ⟨b, off, rfl, fun i y hy => ?_⟩
      have hi : i < l := by have := (List.getElem?_eq_some_iff.1 hy).1; omega
      have hci := hcell i (by omega)
      have ea : (⟨b, off, none⟩ : Addr).add i = ⟨b, off + i, none⟩ := by unfold Addr.add; split <;> simp_all
      rw [ea] at hci
      rw [hci]
      have e1 : ((zs.take l).map (Value.int .u8))[i]? = some (Value.int .u8 (zs.getD i 0)) := by
        rw [List.getElem?_map, List.getElem?_take_of_lt hi, List.getElem?_eq_getElem (by omega)]
        simp [List.getElem?_eq_getElem (show i < zs.length by omega)]
      rw [hxs] at e1
      simp [u8s, hy] at e1
      simp [e1]
    · exact ⟨List.replicate l 0, by simp, fun h => absurd h hbig⟩
end
end Go.Proofs.YtjfkgdfmkofbmaaGreatDoor
