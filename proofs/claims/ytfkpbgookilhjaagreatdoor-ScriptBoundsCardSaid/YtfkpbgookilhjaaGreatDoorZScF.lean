/- The program's bytes of a job. -/
import Derived.Test.YtfkpbgookilhjaaGreatDoorZScE
import Derived.Test.YtfkpbgookilhjaaGreatDoorZScC
namespace Go.Proofs.YtfkpbgookilhjaaGreatDoor
set_option linter.unusedSimpArgs false
set_option linter.unusedVariables false
open Go.RowKit

def encV (f : FileV) : List UInt8 := f.m.enc

set_option maxHeartbeats 1000000 in
theorem lay_files (W0 w : World) (c K : Nat) (v : Value) (xs : List UInt8) (p : Option Addr) (cap : Nat) (l : List FileV) (hb : Below W0.heap.size W0 w) (hc : W0.heap.size ≤ c) (h : Wr w c W0.heap.size v xs)
    (hK : w.heap[K]? = some (.cells #[.pointer (some ⟨c, 0, none⟩)] 57 (0, 0))) (hKc : K ≠ c) (hKv : v.ownBlock ≠ some K)
    (hv : FilesAt W0 (.slice p l.length cap) l) (hx : ∀ f ∈ l, BS W0 (.slice f.p f.n f.cap) f.bytes) (hsm : ∀ f ∈ l, f.name.length ≤ 255 ∧ f.n ≤ 1048576) (hn : l.length < 65536)
    (hlen : xs.length + 2 + (l.flatMap encV).length ≤ 140737488355328) :
    Calls Tryz.prog 25 #[.pointer (some ⟨c, 0, none⟩), .int .i64 2, .slice p l.length cap, .func (.func 26) #[] #[.pointer (some ⟨K, 0, none⟩)]] w fun e w' =>
      e = .returned (.tuple #[]) ∧ ∃ v', Lays W0 w w' c v v' (xs ++ lowB l.length 2 ++ l.flatMap encV) := by
  have hw1 : IntKind.u64.wrap (l.length : Int) = l.length := IntWalk.u64_in _ (by omega)
  have H := hid (And.intro (Lays.start hb h) (And.intro hv (And.intro hx (And.intro hsm (And.intro hK hKv)))))
  clear hb h hv hx hsm hK hKv
  go_enter Tryz.func25, Tryz.ntmps25
  go_wp2_with fail
  refine (w_number _ c W0.heap.size v xs l.length 2 _ rfl (by omega) (by omega) H.out.1.wr (by omega) H.out.1.bel.size).mono ?_
  rintro e w1 ⟨rfl, v1, hwr, hwo⟩
  have hKl : K < w.heap.size := (Array.getElem?_eq_some_iff.1 H.out.2.2.2.2.1).1
  have H1 := hid (And.intro (H.out.1.next hc hwr hwo) (And.intro (hwo.box H.out.2.2.2.2.1 hKc H.out.2.2.2.2.2) (hwo.off hKl H.out.2.2.2.2.2)))
  clear hwr hwo
  go_wp2_with fail
  go_loopw [18] (fun i wr => ∃ k : Nat, k ≤ l.length ∧ i = .int .i64 (k : Int) ∧ ∃ v', Lays W0 w wr c v v' (xs ++ lowB l.length 2 ++ (l.take k).flatMap encV) ∧ wr.heap[K]? = some (.cells #[.pointer (some ⟨c, 0, none⟩)] 57 (0, 0)) ∧ v'.ownBlock ≠ some K) (fun i _ => l.length - (intOf i).toNat)
  case atStart => exact ⟨0, Nat.zero_le _, rfl, v1, by simpa using H1.out.1, H1.out.2.1, H1.out.2.2⟩
  case round =>
    obtain ⟨k, hk, rfl, v', hl, hK, hKv⟩ := hrel
    by_cases hlt : k < l.length
    · obtain ⟨f, hs⟩ : ∃ s, l[k]? = some s := ⟨_, List.getElem?_eq_getElem hlt⟩
      obtain ⟨g, off, rfl, x0, x1⟩ := FilesAt.cell (RowsAt.below H.out.2.1 hl.bel) hs
      have hmem := List.mem_of_getElem? hs
      have e1 := flat_snoc encV hs
      have e2 := flat_take_le encV l (k + 1)
      have hxf := H.out.2.2.1 f hmem
      have hsf := H.out.2.2.2.1 f hmem
      obtain ⟨nm, q, n, qc, bs⟩ := f
      obtain rfl : bs.length = n := hxf.len
      dsimp only at x0 x1 hxf hsf
      have e3 : encV ⟨nm, q, bs.length, qc, bs⟩ = nmB nm ++ blB bs := rfl
      rw [e1, e3, List.length_append, List.length_append, nmB_length, blB_length] at e2
      have hlen2 : (xs ++ lowB l.length 2 ++ (l.take k).flatMap encV).length + (2 + nm.length + (4 + bs.length)) ≤ 140737488355328 := by
        rw [List.length_append, List.length_append, lowB_length]; omega
      have hb2 : Below wr.heap.size wr (wr.alloc (.cells #[.string (mkS nm), .slice q bs.length qc] 39)) := (Below.refl _ _).alloc (Nat.le_refl _) _
      have hKl : K < wr.heap.size := (Array.getElem?_eq_some_iff.1 hK).1
      have Hl := hid (And.intro (hl.more hb2) (And.intro ((hb2.block K hKl).trans hK) (And.intro hKv (And.intro (e1.trans (by rw [e3])) (And.intro hlen2 (And.intro hxf hsf))))))
      clear hl e1 e2 hs hlen2 hK hKv hmem hxf hsf hb2 e3
      go_wp2_with fail
      refine (lay_file W0 _ c K v' _ nm bs q qc Hl.out.1.bel hc Hl.out.1.wr Hl.out.2.1 hKc Hl.out.2.2.1 Hl.out.2.2.2.2.2.1 (by have := Hl.out.2.2.2.2.2.2.1; omega) (by have := Hl.out.2.2.2.2.2.2.2; omega) Hl.out.2.2.2.2.1).mono ?_
      rintro e w2 ⟨rfl, v2, hl2⟩
      have H2 := hid (And.intro (Hl.out.1.next hc hl2.wr hl2.wo) (And.intro (hl2.wo.box Hl.out.2.1 hKc Hl.out.2.2.1) (hl2.wo.off (Array.getElem?_eq_some_iff.1 Hl.out.2.1).1 Hl.out.2.2.1)))
      clear hl2
      go_wp2_with fail
      refine ⟨⟨k + 1, by omega, by go_num, v2, ?_, H2.out.2.1, H2.out.2.2⟩, by simp [intOf]; omega⟩
      rw [Hl.out.2.2.2.1, ← List.append_assoc, ← List.append_assoc]
      exact H2.out.1
    · have Hl := hid hl
      clear hl hK hKv
      go_wp2_with fail
      go_end0
      refine ⟨rfl, v', ?_⟩
      have := Hl.out
      rwa [flat_all encV (by omega)] at this
end Go.Proofs.YtfkpbgookilhjaaGreatDoor
