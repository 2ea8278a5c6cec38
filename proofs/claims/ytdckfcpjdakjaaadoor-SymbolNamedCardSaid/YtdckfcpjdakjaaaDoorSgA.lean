/- The walks of SymbolNamed's much, and of symbol.Named. -/
import Derived.Test.YtdckfcpjdakjaaaDoorOpenG
import Derived.Test.YtdckfcpjdakjaaaDoorRows
import Derived.Test.YtdckfcpjdakjaaaDoorGrew
namespace Go.Proofs.YtdckfcpjdakjaaaDoor
set_option linter.unusedSimpArgs false
set_option linter.unusedVariables false
open Go.RowKit

theorem open_signs {H : Type} {enc : TypeId × Value → H} {W : World} {base base' : Nat} {sp : Nat → Bool} {held : Bool} {v : Value} {d : DataW H} {p : List MemPlace}
    (hv : Value.okWide Tryd.prog W .any base' 22 v) (h : DataW.Trod enc Tryd.prog W base sp held 22 v d p) :
    ∃ a len cap, v = .slice a len cap ∧ ∃ l, SN W (.slice a len cap) l ∧ ∀ s ∈ l, SymIn s.sect s.val :=
  open_syms_at Tryd.underlying22 Tryd.underlying28 (by kernel_rfl) (by kernel_rfl) Tryd.underlying9 Tryd.underlying3 Tryd.underlying26 Tryd.underlying4 hv h

/-- 'much': it is said, but where it is not there are few. -/
def MuchPost (l : List Sym) (w : World) (e : Ending) (w' : World) : Prop := ∃ b : Bool, e = .returned (.bool b) ∧ (b = false → l.length ≤ 60) ∧ w = w'

set_option maxHeartbeats 1000000 in
theorem sg_much (w : World) (p : Option Addr) (n cap : Nat) (l : List Sym) (h : SN w (.slice p n cap) l) :
    Calls Tryd.prog 4 #[.slice none 0 0, .slice p n cap] w (MuchPost l w) := by
  obtain ⟨rfl, hml⟩ := h.len
  simp only [maxLen] at hml
  have H := hid h
  clear h
  go_enter Tryd.func4, Tryd.ntmps4
  go_wp2_with fail
  go_loop [6] (fun i => i = .int .i64 0) (fun _ => 0)
  case atStart => exact rfl
  case round =>
    obtain rfl := hrel
    go_wp2_with fail
    go_loop [5, 7] (fun t i => ∃ (x : Int) (k : Nat), k ≤ l.length ∧ t = .int .i64 x ∧ i = .int .i64 (k : Int)) (fun _ i => l.length - (intOf i).toNat)
    case atStart => exact ⟨0, 0, Nat.zero_le _, rfl, rfl⟩
    case round =>
      obtain ⟨x, k, hk, rfl, rfl⟩ := hrel
      by_cases hlt : k < l.length ∧ k ≤ 60
      · obtain ⟨hlt, h60⟩ := hlt
        obtain ⟨g, off, rfl, hcs⟩ := H.out.at (by omega)
        obtain ⟨s, hs⟩ : ∃ s, l[k]? = some s := ⟨_, List.getElem?_eq_getElem hlt⟩
        have x0 := (hcs k s hs).1
        clear hcs hs
        go_wp2_with fail
        go_round
        case rel => exact ⟨_, k + 1, by omega, rfl, by go_num⟩
        case measure => simp [intOf]; omega
      · by_cases h1 : k < l.length
        · have h60 : 60 < k := by omega
          clear hlt
          have h60' : 60 < l.length := by omega
          go_wp2_with fail
          go_ret
          exact ⟨_, rfl, fun h => by simp at h, rfl⟩
        · obtain rfl : k = l.length := by omega
          clear hlt
          by_cases h60 : 60 < l.length
          · go_wp2_with fail
            go_ret
            exact ⟨_, rfl, fun h => by simp at h, rfl⟩
          · go_wp2_with fail
            go_ret
            exact ⟨_, rfl, fun h => by omega, rfl⟩

theorem Tryd.infoSign : (Tryd.prog.info? 28).map (fun i => (i.zero, i.size, i.bytes)) = some (some (.agg #[.string ⟨#[]⟩, .int .i64 0, .int .u64 0, .bool false]), 4, 40) := by kernel_rfl

/-- Those of a name. -/
def namedM (l : List Sym) (nm : List UInt8) : List Sym := l.filter fun s => s.name == nm

theorem namedM_snoc_yes {l : List Sym} {k : Nat} {s : Sym} {nm : List UInt8} (hs : l[k]? = some s) (h : s.name = nm) : namedM (l.take (k + 1)) nm = namedM (l.take k) nm ++ [s] := by
  unfold namedM; rw [take_snoc hs, List.filter_append]; simp [h]
theorem namedM_snoc_no {l : List Sym} {k : Nat} {s : Sym} {nm : List UInt8} (hs : l[k]? = some s) (h : s.name ≠ nm) : namedM (l.take (k + 1)) nm = namedM (l.take k) nm := by
  unfold namedM; rw [take_snoc hs, List.filter_append]; simp [h]

structure NamedRel (w wr : World) (l : List Sym) (nm : List UInt8) (v : Value) (k : Nat) (out : List Sym) : Prop where
  le : k ≤ l.length
  eq : namedM (l.take k) nm = out
  own : wr.ownsRow w.heap.size 28 4 v out.length (symsCells out)
  below : Below w.heap.size w wr
  few : out.length ≤ k

def NamedAt (w wr : World) (l : List Sym) (nm : List UInt8) (v i : Value) : Prop := ∃ (k : Nat) (out : List Sym), i = .int .i64 (k : Int) ∧ NamedRel w wr l nm v k out

set_option maxHeartbeats 1000000 in
theorem sg_named (w : World) (p : Option Addr) (n cap : Nat) (l : List Sym) (nm : List UInt8) (h : SN w (.slice p n cap) l) (hl : l.length ≤ 60) :
    Calls Tryd.prog 6 #[.slice p n cap, .string (mkS nm)] w fun e w' => ∃ v, e = .returned v ∧ w'.ownsRow w.heap.size 28 4 v (namedM l nm).length (symsCells (namedM l nm)) ∧ Below w.heap.size w w' := by
  obtain ⟨rfl, hml⟩ := h.len
  obtain ⟨i0, hi, hz0, hz1, hz2⟩ := info_parts Tryd.infoSign
  have H := hid (And.intro h (And.intro hi (And.intro hz0 (And.intro hz1 hz2))))
  clear h hml hi hz0 hz1 hz2
  go_enter Tryd.func6, Tryd.ntmps6
  go_wp2_with fail
  go_loopw [4, 9] (fun v i wr => NamedAt w wr l nm v i) (fun _ i _ => l.length - (intOf i).toNat)
  case atStart => exact ⟨0, [], rfl, Nat.zero_le _, by simp [namedM], World.ownsRow_nil _ _ _ _, Below.refl _ _, Nat.le_refl _⟩
  case round =>
    obtain ⟨k, out, rfl, R⟩ := hrel
    have hk := R.le
    have hz := R.below.size
    have hfew := R.few
    by_cases hlt : k < l.length
    · obtain ⟨g, off, rfl, hcs⟩ := (H.out.1.below R.below).at (by omega)
      obtain ⟨s, hs⟩ : ∃ s, l[k]? = some s := ⟨_, List.getElem?_eq_getElem hlt⟩
      obtain ⟨x0, x1, x2, x3⟩ := hcs k s hs
      have HR := hid (And.intro R hs)
      clear R hs hcs
      by_cases hn : s.name = nm
      · have hb : (s.name == nm) = true := by simp [hn]
        have Hn := hid hn
        clear hn
        go_wp2_with (at_builtin; refine wpList_append_grew _ rfl _ _ _ _ rfl w.heap.size 28 i0 _ 4 40 Tryd.underlying22 H.out.2.1 H.out.2.2.1 H.out.2.2.2.1 H.out.2.2.2.2 rfl _ out.length (symsCells out) rfl (ownsRow_below HR.out.1.own (((Below.refl _ _).alloc (Nat.le_refl _) _).alloc (by simp) _)) _ 1 s.cells rfl (Src.laid _ Tryd.underlying22 s.cells 1 rfl (by simp [Sym.cells, Value.oneCell']) (0, 0) (by simp)) ?c3 ?c4 ?c5 ?_)
        case c3 => exact Nat.le_trans (show out.length + 1 ≤ 5000 by omega) (by decide)
        case c4 => omega
        case c5 => simp; omega
        intro v1 W1 hl1 hg1
        have hg1 : Grew wr W1 _ v1 := Grew.under (((Below.refl _ _).alloc (Nat.le_refl _) _).alloc (by simp) _) hg1
        have H1 := hid (And.intro hl1 hg1)
        clear hl1 hg1
        go_wp2
        have R := HR.out.1
        refine ⟨⟨k + 1, out ++ [s], by go_num, ⟨by omega, ?_, ?_, ?_, ?_⟩⟩, by simp [intOf]; omega⟩
        · rw [namedM_snoc_yes HR.out.2 Hn.out, R.eq]
        · rw [symsCells_snoc, List.length_append]; exact H1.out.1
        · exact R.below.trans (H1.out.2.below hz (fun k hk => (R.own.lt k hk).1))
        · simp; omega
      · have hb : (s.name == nm) = false := by simp [hn]
        have Hn := hid hn
        clear hn
        go_wp2
        have R := HR.out.1
        refine ⟨⟨k + 1, out, by go_num, ⟨by omega, ?_, ?_, ?_, by omega⟩⟩, by simp [intOf]; omega⟩
        · rw [namedM_snoc_no HR.out.2 Hn.out, R.eq]
        · exact ownsRow_below R.own ((Below.refl _ _).alloc (Nat.le_refl _) _)
        · exact R.below.alloc hz _
    · obtain rfl : k = l.length := by omega
      have HR := hid R
      clear R
      go_wp2
      go_ret
      have e : namedM l nm = out := by have := HR.out.eq; rwa [List.take_length] at this
      rw [e]
      exact ⟨_, rfl, HR.out.own, HR.out.below⟩

end Go.Proofs.YtdckfcpjdakjaaaDoor
