/- Plain helpers of these proofs: how a slice of bytes reads in a world, what is kept from one world to the next. No program in sight. -/
import Derived.WalkKit
import Derived.WalkSpells
import Derived.WalkLawsBesides
import Derived.Handy
import Derived.BigQuiet
import Derived.Deep.QuietTactic
import Derived.Laws.BytesArg
import Derived.Lib.Bytes2
import Derived.Lib.IndexLaws
import Derived.Test.YtjfkgdfmkofbmaaGreatDoorZPlain
namespace Go.Proofs.YtjfkgdfmkofbmaaGreatDoor
set_option linter.unusedSimpArgs false
set_option linter.unusedVariables false
open Go.RowKit

theorem hid {p : Prop} (h : p) : Hid p := h

@[go_sem] theorem drewN_setCell (w : World) (q : Nat) (a : Addr) (v : Value) : (w.drewN q).setCell a v = (w.setCell a v).drewN q := rfl
@[go_sem] theorem drewN_alloc (w : World) (q : Nat) (o : Obj) : (w.drewN q).alloc o = (w.alloc o).drewN q := rfl

/-- The value v reads in w as the bytes l: nil or not. -/
def BS (w : World) (v : Value) (l : List UInt8) : Prop :=
  ∃ (p : Option Addr) (cap : Nat), v = .slice p l.length cap ∧ l.length ≤ cap ∧ (cap ≤ maxLen ∧ l.length ≤ 140737488355328) ∧
    (l ≠ [] → ∃ b off, p = some ⟨b, off, none⟩ ∧ ∀ i x, l[i]? = some x → w.cell? ⟨b, off + i, none⟩ = some (.int .u8 (x.toNat : Int)))

/-- How many items a slice has. -/
def slLen : Value → Nat
  | .slice _ n _ => n
  | _ => 0

theorem BS.form {w : World} {v : Value} {l : List UInt8} (h : BS w v l) {n : Nat} (hn : l.length = n) : ∃ p cap, v = .slice p n cap := by
  obtain ⟨p, cap, rfl, _⟩ := h
  exact ⟨p, cap, by rw [hn]⟩

theorem ownsRow_base {w : World} {base base' : Nat} {e : TypeId} {size : Nat} {v : Value} {n : Nat} {xs : List Value} (h : w.ownsRow base e size v n xs) (hb : base' ≤ base) : w.ownsRow base' e size v n xs := by
  refine ⟨h.1, ?_⟩
  rcases h.2 with hn | ⟨g, cap, cur, rfl, hg, rest⟩
  · exact .inl hn
  · exact .inr ⟨g, cap, cur, rfl, Nat.le_trans hb hg, rest⟩

theorem ownsRow_form {w : World} {base : Nat} {e : TypeId} {size : Nat} {v : Value} {n : Nat} {xs : List Value} (h : w.ownsRow base e size v n xs) : ∃ a cap, v = .slice a n cap := by
  rcases h.2 with ⟨rfl, rfl⟩ | ⟨g, cap, cur, rfl, _⟩
  · exact ⟨none, 0, rfl⟩
  · exact ⟨_, _, rfl⟩

theorem Below.all {w w' : World} (h : Below w.heap.size w w') (r : Option Nat) : w.grownBy w' r := ⟨h.os, h.tape, h.output, h.size, fun k hk _ => h.block k hk⟩

theorem ownsRow_below {w w' : World} {base : Nat} {e : TypeId} {size : Nat} {v : Value} {n : Nat} {xs : List Value} (h : w.ownsRow base e size v n xs) (hb : Below w.heap.size w w') : w'.ownsRow base e size v n xs :=
  h.kept (Below.all hb none) (by cases hv : v.ownBlock <;> simp)

theorem cells_new (w : World) (cs : List Value) (t : TypeId) : ∀ (j : Nat) (u : Value), cs[j]? = some u → (w.alloc (.cells cs.toArray t)).cell? ((⟨w.heap.size, 0, none⟩ : Addr).add j) = some u := by
  intro j u hu
  have e : ((⟨w.heap.size, 0, none⟩ : Addr).add j) = ⟨w.heap.size, j, none⟩ := by unfold Addr.add; split <;> simp_all
  rw [e, cell_of_row _ _ j _ _ _ (heap_alloc_new w _)]
  simpa using hu

/-- The block in which a slice's cells lie. -/
def inBlk : Value → Nat → Prop
  | .slice (some a) n _, k => 0 < n ∧ a.block = k
  | _, _ => False

theorem BS.of_block {w w' : World} {v : Value} {l : List UInt8} (h : BS w v l) (hb : ∀ k, inBlk v k → k < w.heap.size → w'.heap[k]? = w.heap[k]?) : BS w' v l := by
  obtain ⟨p, cap, rfl, h1, h2, h3⟩ := h
  refine ⟨p, cap, rfl, h1, h2, fun hne => ?_⟩
  obtain ⟨b, off, rfl, hc⟩ := h3 hne
  refine ⟨b, off, rfl, fun i x hx => ?_⟩
  have hi := hc i x hx
  rw [← hi]
  refine World.cell?_of_block (hb b ⟨?_, rfl⟩ (World.block_lt_of_cell? w _ hi))
  exact List.length_pos_iff.2 hne

theorem BS.below {w w' : World} {v : Value} {l : List UInt8} (h : BS w v l) (hb : Below w.heap.size w w') : BS w' v l :=
  h.of_block fun k _ hk => hb.block k hk

theorem BS.grown {w w' : World} {v : Value} {l : List UInt8} (h : BS w v l) {c : Nat} (hg : w.grownBy w' (some c)) (hc : ¬ inBlk v c) : BS w' v l :=
  h.of_block fun k hk hlt => hg.block k hlt (fun e => hc (by cases e; exact hk))

theorem BS.heap {w w' : World} {v : Value} {l : List UInt8} (h : BS w v l) (hh : w'.heap = w.heap) : BS w' v l := h.of_block fun _ _ _ => by rw [hh]

theorem BS.len {w : World} {p : Option Addr} {n cap : Nat} {l : List UInt8} (h : BS w (.slice p n cap) l) : l.length = n := by
  obtain ⟨p', cap', he, _⟩ := h
  cases he; rfl

theorem BS.cap {w : World} {p : Option Addr} {n cap : Nat} {l : List UInt8} (h : BS w (.slice p n cap) l) : n ≤ cap ∧ cap ≤ maxLen ∧ n ≤ 140737488355328 := by
  obtain ⟨p', cap', he, h1, h2, _⟩ := h
  cases he; exact ⟨h1, h2⟩

/-- The numbers of bytes; the cells of bytes; the text of bytes. -/
def nums (l : List UInt8) : List Int := l.map fun x => (x.toNat : Int)
def u8s (l : List UInt8) : List Value := l.map fun x => Value.int .u8 (x.toNat : Int)
theorem nums_length (l : List UInt8) : (nums l).length = l.length := by simp [nums]
theorem nums_back (l : List UInt8) : (nums l).map (fun n => UInt8.ofNat n.toNat) = l := by
  unfold nums; rw [List.map_map]; conv => rhs; rw [← List.map_id l]
  exact List.map_congr_left fun x _ => by simp
theorem u8s_eq (l : List UInt8) : u8s l = (nums l).map (Value.int .u8) := by simp [u8s, nums]
theorem nums_getD {l : List UInt8} {i : Nat} {x : UInt8} (h : l[i]? = some x) : (nums l).getD i 0 = (x.toNat : Int) := by simp [nums, h]

/-- The cells of a slice, as the shelf's contracts ask them. -/
theorem BS.cellsAt {w : World} {a : Addr} {n cap : Nat} {l : List UInt8} (h : BS w (.slice (some a) n cap) l) : ∀ i, i < n → w.cell? (a.add i) = some (.int .u8 ((nums l).getD i 0)) := by
  intro i hi
  have hl := h.len
  obtain ⟨p', cap', he, h1, h2, h3⟩ := h
  cases he
  obtain ⟨b, off, e, hc⟩ := h3 (by intro e; rw [e] at hi; exact absurd hi (by simp))
  cases e
  have hx : l[i]? = some l[i] := List.getElem?_eq_getElem hi
  rw [nums_getD hx, ← hc i _ hx]
  unfold Addr.add; split
  · rename_i e; rw [e, Nat.add_zero]
  · rfl

theorem strOfNums_nums (l : List UInt8) : strOfNums (nums l) = mkS l := by unfold strOfNums; rw [nums_back]; rfl

/-- A slice of the call's own, of bytes. -/
theorem BS.of_owns {w : World} {base : Nat} {e : TypeId} {v : Value} {n : Nat} {l : List UInt8} (h : w.ownsRow base e 1 v n (u8s l)) (hn : n ≤ 140737488355328) :
    ∃ p cap, v = .slice p n cap ∧ BS w (.slice p n cap) l ∧ ∀ k, inBlk (.slice p n cap) k → base ≤ k := by
  have hl : l.length = n := by have := h.1; simpa [u8s] using this
  have h0 := h
  rcases h.2 with ⟨rfl, rfl⟩ | ⟨g, cap, cur, rfl, hb, hg, hnc, hcm, hcs, htake⟩
  · refine ⟨none, 0, rfl, ⟨none, 0, by rw [hl], by omega, ⟨Nat.zero_le _, by omega⟩, fun hne => ?_⟩, fun k hk => hk.elim⟩
    exact absurd (List.eq_nil_of_length_eq_zero hl) hne
  · refine ⟨_, cap, rfl, ⟨_, cap, by rw [hl], by omega, ⟨hcm, by omega⟩, fun hne => ⟨g, 0, rfl, fun i x hx => ?_⟩⟩, fun k hk => by have : g = k := hk.2; omega⟩
    have hc := h0.cellAt i (by have := (List.getElem?_eq_some_iff.1 hx).1; omega)
    rw [Nat.zero_add, hc]
    simp [u8s, hx]

theorem BS.at {w : World} {p : Option Addr} {n cap : Nat} {l : List UInt8} (h : BS w (.slice p n cap) l) (hn : 0 < n) :
    ∃ b off, p = some ⟨b, off, none⟩ ∧ ∀ i x, l[i]? = some x → w.cell? ⟨b, off + i, none⟩ = some (.int .u8 (x.toNat : Int)) := by
  obtain ⟨p', cap', he, h1, h2, h3⟩ := h
  cases he
  exact h3 (by intro e; rw [e] at hn; exact absurd hn (by simp))

/-- The address of what is cut out from l on, where m is the cut's end of room. -/
def subA (p : Option Addr) (l m : Nat) : Option Addr := if m = l then p else p.map (·.add l)

theorem sub_bs {w : World} {p : Option Addr} {l : List UInt8} {cap : Nat} (h : BS w (.slice p l.length cap) l) {lo hi m : Nat} (h1 : lo ≤ hi) (h2 : hi ≤ l.length) (h3 : hi ≤ m) (h4 : m ≤ cap) :
    BS w (.slice (subA p lo m) (hi - lo) (m - lo)) ((l.drop lo).take (hi - lo)) := by
  obtain ⟨p', cap', he, g1, g2, g3⟩ := h
  cases he
  have hlen : ((l.drop lo).take (hi - lo)).length = hi - lo := by simp; omega
  refine ⟨_, _, by rw [hlen], by rw [hlen]; omega, ⟨by omega, by omega⟩, fun hne => ?_⟩
  have hpos := List.length_pos_iff.2 hne
  rw [hlen] at hpos
  obtain ⟨b, off, rfl, hc⟩ := g3 (by intro e; subst e; simp at h2; omega)
  by_cases hz : lo = 0
  · subst hz
    refine ⟨b, off, by unfold subA; split <;> simp [Addr.add], fun i x hx => ?_⟩
    rw [List.getElem?_take] at hx
    split at hx
    · exact hc i x (by simpa using hx)
    · cases hx
  · refine ⟨b, off + lo, by unfold subA; rw [if_neg (by omega)]; simp [Addr.add, hz], fun i x hx => ?_⟩
    rw [List.getElem?_take] at hx
    split at hx
    · have := hc (lo + i) x (by simpa using hx)
      rw [Nat.add_assoc]; exact this
    · cases hx

theorem drop_bs {w : World} {p : Option Addr} {n cap : Nat} {l : List UInt8} (h : BS w (.slice p n cap) l) {lo : Nat} (h1 : lo ≤ n) :
    BS w (.slice (subA p lo cap) (n - lo) (cap - lo)) (l.drop lo) := by
  have hl := h.len
  have hc := h.cap
  subst hl
  have := sub_bs h (lo := lo) (hi := l.length) (m := cap) h1 (Nat.le_refl _) hc.1 (Nat.le_refl _)
  rwa [List.take_of_length_le (by simp)] at this

theorem pre_bs {w : World} {p : Option Addr} {n cap : Nat} {l : List UInt8} (h : BS w (.slice p n cap) l) {hi m : Nat} (h2 : hi ≤ n) (h3 : hi ≤ m) (h4 : m ≤ cap) :
    BS w (.slice p hi m) (l.take hi) := by
  have hn := h.len
  obtain ⟨p', cap', he, g1, g2, g3⟩ := h
  cases he
  have hlen : (l.take hi).length = hi := by simp; omega
  refine ⟨_, _, by rw [hlen], by rw [hlen]; omega, ⟨by omega, by omega⟩, fun hne => ?_⟩
  obtain ⟨b, off, rfl, hc⟩ := g3 (by intro e; subst e; simp at hne)
  refine ⟨b, off, rfl, fun i x hx => ?_⟩
  rw [List.getElem?_take] at hx
  split at hx
  · exact hc i x hx
  · cases hx

theorem add_block (a : Addr) (n : Nat) : (a.add n).block = a.block := by unfold Addr.add; split <;> rfl

theorem sub_blk {p : Option Addr} {n cap lo hi m k : Nat} (h1 : lo ≤ hi) (h2 : hi ≤ n) (h : inBlk (.slice (subA p lo m) (hi - lo) (m - lo)) k) : inBlk (.slice p n cap) k := by
  cases p with
  | none =>
    have : subA none lo m = none := by unfold subA; split <;> rfl
    rw [this] at h
    exact h.elim
  | some a =>
    have : ∃ a', subA (some a) lo m = some a' ∧ a'.block = a.block := by
      unfold subA; split
      · exact ⟨a, rfl, rfl⟩
      · exact ⟨_, rfl, add_block a lo⟩
    obtain ⟨a', e, hb⟩ := this
    rw [e] at h
    have h' : 0 < hi - lo ∧ a'.block = k := h
    show 0 < n ∧ a.block = k
    rw [← hb]
    exact ⟨by omega, h'.2⟩

section
variable {P : Program} {w : World} {t : TypeId} (p : Option Addr) (n cap : Nat)
theorem run_sub3 (ht : P.underlying t = some (.slice (P.elem t))) (hs : (sizeOf (P.elem t)).run P w = .ok 1 w) (kl kh km : IntKind) (lo hi m : Int) (h0 : 0 ≤ lo) (h1 : lo ≤ hi) (h2 : hi ≤ m) (h3 : m ≤ cap) :
    (Instr.slice t (.slice p n cap) (some (.int kl lo)) (some (.int kh hi)) (some (.int km m))).run P w = .ok (.slice (subA p lo.toNat m.toNat) (hi.toNat - lo.toNat) (m.toNat - lo.toNat)) w := by
  rw [run_slice_lhm w t p n cap ht kl kh km lo hi m h0 h1 h2 h3, hs]
  simp [sliced, subA, Result.andThen]
theorem run_sub2 (ht : P.underlying t = some (.slice (P.elem t))) (hs : (sizeOf (P.elem t)).run P w = .ok 1 w) (kl kh : IntKind) (lo hi : Int) (h0 : 0 ≤ lo) (h1 : lo ≤ hi) (h2 : hi ≤ cap) :
    (Instr.slice t (.slice p n cap) (some (.int kl lo)) (some (.int kh hi)) none).run P w = .ok (.slice (subA p lo.toNat cap) (hi.toNat - lo.toNat) (cap - lo.toNat)) w := by
  rw [run_slice_lh w t p n cap ht kl kh lo hi h0 h1 h2, hs]
  simp [sliced, subA, Result.andThen]
theorem run_subl (ht : P.underlying t = some (.slice (P.elem t))) (hs : (sizeOf (P.elem t)).run P w = .ok 1 w) (kl : IntKind) (lo : Int) (h0 : 0 ≤ lo) (h1 : lo ≤ n) :
    (Instr.slice t (.slice p n cap) (some (.int kl lo)) none none).run P w = .ok (.slice (subA p lo.toNat cap) (n - lo.toNat) (cap - lo.toNat)) w := by
  rw [run_slice_l w t p n cap ht kl lo h0 h1, hs]
  simp [sliced, subA, Result.andThen]
theorem addr_add_zero (a : Addr) : a.add 0 = a := by simp [Addr.add]
theorem run_subh (ht : P.underlying t = some (.slice (P.elem t))) (hs : (sizeOf (P.elem t)).run P w = .ok 1 w) (kh : IntKind) (hi : Int) (h0 : 0 ≤ hi) (h1 : hi ≤ cap) :
    (Instr.slice t (.slice p n cap) none (some (.int kh hi)) none).run P w = .ok (.slice p hi.toNat cap) w := by
  rw [run_slice_h w t p n cap ht kh hi h0 h1, hs]
  cases p <;> simp [sliced, Result.andThen, addr_add_zero]
theorem run_subhm (ht : P.underlying t = some (.slice (P.elem t))) (hs : (sizeOf (P.elem t)).run P w = .ok 1 w) (kh km : IntKind) (hi m : Int) (h0 : 0 ≤ hi) (h1 : hi ≤ m) (h2 : m ≤ cap) :
    (Instr.slice t (.slice p n cap) none (some (.int kh hi)) (some (.int km m))).run P w = .ok (.slice p hi.toNat m.toNat) w := by
  rw [run_slice_hm w t p n cap ht kh km hi m h0 h1 h2, hs]
  cases p <;> simp [sliced, Result.andThen, addr_add_zero]

/-- 'string(b)'. -/
theorem run_toString {src e dst : TypeId} (hs : P.underlying src = some (.slice e)) (he : P.underlying e = some (.int .u8)) (hd : P.underlying dst = some .string) {l : List UInt8} (h : BS w (.slice p n cap) l) :
    (convert src dst (.slice p n cap)).run P w = .ok (.string (mkS l)) w := by
  have hl := h.len
  rcases Nat.eq_zero_or_pos n with hn | hn
  · subst hn
    obtain rfl : l = [] := List.eq_nil_of_length_eq_zero hl
    rw [run_convert_bytes_string w src dst e _ 0 cap hs he hd]
    cases p <;> simp [Conv.bytesToString, loadCells]
    all_goals rfl
  · obtain ⟨b, off, rfl, hc⟩ := h.at hn
    rw [run_convert_bytes_arg w src e hs he b off n cap (nums l) (by rw [nums_length, hl]) (fun i hi => ?_) dst hd, strOfNums_nums]
    have hx : l[i]? = some (l[i]'(by omega)) := List.getElem?_eq_getElem _
    rw [nums_getD hx]; exact hc i _ hx
end

end Go.Proofs.YtjfkgdfmkofbmaaGreatDoor

namespace Go.Proofs.YtjfkgdfmkofbmaaGreatDoor
set_option linter.unusedSimpArgs false
set_option linter.unusedVariables false
open Go.RowKit

/-- What is cut out of a slice lies in its block. -/
theorem cut_blk {p : Option Addr} {lo m a b N C k : Nat} (h : inBlk (.slice (subA p lo m) a b) k) (hN : 0 < N) : inBlk (.slice p N C) k := by
  cases p with
  | none =>
    have : subA none lo m = none := by unfold subA; split <;> rfl
    rw [this] at h
    exact h.elim
  | some x =>
    obtain ⟨x', e, hb⟩ : ∃ x', subA (some x) lo m = some x' ∧ x'.block = x.block := by
      unfold subA; split
      · exact ⟨x, rfl, rfl⟩
      · exact ⟨_, rfl, add_block x lo⟩
    rw [e] at h
    have h' : 0 < a ∧ x'.block = k := h
    exact ⟨hN, by rw [← hb]; exact h'.2⟩

theorem drewN_drewN (w : World) (a b : Nat) : (w.drewN a).drewN b = w.drewN (a + b) := by simp [World.drewN, Nat.add_assoc]
theorem ownsRow_drewN {w : World} {base : Nat} {e : TypeId} {size : Nat} {v : Value} {n : Nat} {xs : List Value} (h : w.ownsRow base e size v n xs) (q : Nat) : (w.drewN q).ownsRow base e size v n xs := h

@[go_sem, simp] theorem mkS_list (l : List UInt8) : (mkS l).toList = l := by rw [Lib.toList_data]; rfl
@[go_sem] theorem mkS_size' (l : List UInt8) : (mkS l).size = l.length := mkS_size l

theorem inBlk_pos {p : Option Addr} {n c k : Nat} (h : inBlk (.slice p n c) k) : 0 < n := by
  cases p with
  | none => exact h.elim
  | some a => exact h.1

end Go.Proofs.YtjfkgdfmkofbmaaGreatDoor
