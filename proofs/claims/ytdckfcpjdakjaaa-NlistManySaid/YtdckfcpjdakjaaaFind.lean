/- The walk of nlist.Find. -/
import Derived.Test.YtdckfcpjdakjaaaSyms
import Derived.OneCell
namespace Go.Proofs.Ytdckfcpjdakjaaa
set_option linter.unusedSimpArgs false
set_option linter.unusedVariables false
open Go.RowKit Go.Maps

theorem mkS_data (s : ByteArray) : mkS s.data.toList = s := by cases s; rfl

set_option maxHeartbeats 400000 in
theorem find_fn (w : World) (s : Sym) (nb : Nat) (nl : List UInt8) (hc : w.cell? ⟨nb, 0, none⟩ = some (.string (mkS nl))) :
    Calls Try.prog 25 #[.agg #[.string (mkS s.name), .int .i64 s.sect, .int .u64 s.val, .bool s.weak], .pointer (some ⟨nb, 0, none⟩)] w fun e w' => e = .returned (.bool (s.name == nl)) ∧ Below w.heap.size w w' := by
  have hlt := World.block_lt_of_cell? w _ hc
  have hlt' : nb < w.heap.size := hlt
  go_enter Try.func25, Try.ntmps25
  go_wp2
  go_ret
  exact ⟨rfl, (Below.refl _ _).alloc (Nat.le_refl _) _⟩

def posM (l : List Sym) (nl : List UInt8) : Nat := l.findIdx (fun s => s.name == nl)
def idxM (l : List Sym) (nl : List UInt8) : Int := if posM l nl < l.length then (posM l nl : Int) else -1
theorem idxM_lt {l : List Sym} {nl : List UInt8} (h : posM l nl < l.length) : idxM l nl = posM l nl := if_pos h
theorem idxM_no {l : List Sym} {nl : List UInt8} (h : ¬ posM l nl < l.length) : idxM l nl = -1 := if_neg h

set_option maxHeartbeats 400000 in
theorem index_fn (w : World) (v : Value) (l : List Sym) (nb : Nat) (nl : List UInt8) (hv : SS w v l) (hc : w.cell? ⟨nb, 0, none⟩ = some (.string (mkS nl))) :
    Calls Try.prog 24 #[v, .func (.func 25) #[] #[.pointer (some ⟨nb, 0, none⟩)]] w fun e w' =>
      e = .returned (.int .i64 (idxM l nl)) ∧ Below w.heap.size w w' := by
  obtain ⟨a, c, rfl⟩ := hv.form
  have hll : l.length ≤ 140737488355328 := by obtain ⟨_, _, _, _, h, _⟩ := hv; exact h
  have hpl : posM l nl ≤ l.length := List.findIdx_le_length
  have H := hid (And.intro hv hc)
  clear hv hc
  go_enter Try.func24, Try.ntmps24
  go_wp2_with fail
  go_loopw [8] (fun i wr => ∃ k : Nat, k ≤ posM l nl ∧ i = .int .i64 (k : Int) ∧ Below w.heap.size w wr) (fun i _ => l.length - (intOf i).toNat)
  case atStart => exact ⟨0, Nat.zero_le _, rfl, Below.refl _ _⟩
  case round =>
    obtain ⟨k, hk, rfl, hb⟩ := hrel
    have hsz := hb.size
    by_cases hlt : k < l.length
    · have hvr := H.out.1.below hb
      obtain ⟨g, off, rfl, hcs⟩ := hvr.at (by omega)
      obtain ⟨s, hs⟩ : ∃ s, l[k]? = some s := ⟨_, List.getElem?_eq_getElem hlt⟩
      obtain ⟨x0, x1, x2, x3⟩ := hcs k s hs
      have hcb := (hb.cell (p := ⟨nb, 0, none⟩) (World.block_lt_of_cell? w _ H.out.2)).trans H.out.2
      have hsk : l[k] = s := (List.getElem?_eq_some_iff.1 hs).2
      have Hs := hid (And.intro hsk (And.intro hcb hb))
      clear hcs hs hvr hsk hcb hb
      obtain ⟨bq, hbq⟩ : ∃ bq, bq = (s.name == nl) := ⟨_, rfl⟩
      go_wp2_with fail
      refine (find_fn _ s nb nl (by exact Hs.out.2.1)).mono ?_
      rintro e w1 ⟨rfl, hb1⟩
      rw [← hbq]
      have Hb1 := hid (And.intro hb1 hbq)
      clear hb1 hbq
      cases bq with
      | true =>
        go_wp2
        go_ret
        have hkp : posM l nl = k := by
          have h1 : posM l nl ≤ k := by
            unfold posM
            rcases Nat.lt_or_ge k (List.findIdx (fun s => s.name == nl) l) with h | h
            · have := List.not_of_lt_findIdx h
              rw [Hs.out.1] at this
              exact absurd (Hb1.out.2) (by simp [this])
            · exact h
          omega
        refine ⟨?_, Hs.out.2.2.trans (Hb1.out.1.mono Hs.out.2.2.size)⟩
        rw [idxM_lt (by omega), hkp]
        rfl
      | false =>
        have hkp : k < posM l nl := by
          unfold posM at hk ⊢
          rcases Nat.lt_or_eq_of_le hk with h | h
          · exact h
          · exfalso
            have h2 := List.findIdx_getElem (p := fun s : Sym => s.name == nl) (xs := l) (w := by rw [← h]; exact hlt)
            have h3 : l[List.findIdx (fun s => s.name == nl) l]'(by rw [← h]; exact hlt) = s := by rw [← Hs.out.1]; congr 1; exact h.symm
            rw [h3] at h2
            exact absurd Hb1.out.2 (by simp [h2])
        go_wp2
        exact ⟨⟨k + 1, by omega, by go_num, Hs.out.2.2.trans (Hb1.out.1.mono Hs.out.2.2.size)⟩, by simp [intOf]; omega⟩
    · have hkp : posM l nl = k := by omega
      have Hp := hid (And.intro hkp hb)
      clear hkp hb
      go_wp2
      go_ret
      rw [idxM_no (by rw [Hp.out.1]; exact hlt)]
      exact ⟨rfl, Hp.out.2⟩

/-- What Find answers. -/
def findM (r : List Sym × Nat) (nl : List UInt8) : Sym × Bool × Nat :=
  if r.2 ≠ 0 then (Sym.zero, false, r.2)
  else match r.1[posM r.1 nl]? with
    | none => (Sym.zero, false, 0)
    | some s => (s, true, 0)

theorem tableM_err (names : List UInt8) (sections : Int) : ∀ (n : Nat) (t : List UInt8) (out : List Sym), out.length ≤ 4096 → (((allM names sections n t out).2 ≠ 0 → (allM names sections n t out).1 = []) ∧ (allM names sections n t out).1.length ≤ 4096)
  | 0, _, out, h => ⟨fun h => absurd rfl h, h⟩
  | n + 1, t, out, h => by
    unfold allM
    cases hE : entryM (t.take 16) names sections with
    | none => exact tableM_err names sections n _ out h
    | some r =>
      obtain ⟨e, s⟩ := r
      dsimp only
      by_cases he : e ≠ 0
      · rw [if_pos he]; exact ⟨fun _ => rfl, by simp⟩
      · rw [if_neg he]
        by_cases h1 : out.any (fun x => x.name == s.name) = true
        · rw [if_pos h1]; exact ⟨fun _ => rfl, by simp⟩
        · rw [if_neg h1]
          by_cases h2 : out.length = 4096
          · rw [if_pos h2]; exact ⟨fun _ => rfl, by simp⟩
          · rw [if_neg h2]; exact tableM_err names sections n _ _ (by simp; omega)

theorem tableM_ok (table names : List UInt8) (sections : Int) : ((tableM table names sections).2 ≠ 0 → (tableM table names sections).1 = []) ∧ (tableM table names sections).1.length ≤ 4096 := by
  unfold tableM
  split
  · exact ⟨fun _ => rfl, by simp⟩
  · exact tableM_err _ _ _ _ _ (by simp)

set_option maxHeartbeats 1000000 in
theorem nl_find (w : World) (p q : Option Addr) (n cap k capk : Nat) (table names : List UInt8) (sections : Int) (nl : List UInt8) (ht : BS w (.slice p n cap) table) (hn : BS w (.slice q k capk) names) :
    Calls Try.prog 11 #[.slice p n cap, .slice q k capk, .int .i64 sections, .string (mkS nl)] w fun e w' =>
      e = .returned (.tuple #[.agg (findM (tableM table names sections) nl).1.cells.toArray, .bool (findM (tableM table names sections) nl).2.1, .int .i64 (findM (tableM table names sections) nl).2.2]) ∧ Below w.heap.size w w' := by
  obtain ⟨M, hM⟩ : ∃ M, M = tableM table names sections := ⟨_, rfl⟩
  have hok := tableM_ok table names sections
  rw [← hM] at hok ⊢
  have hW0 : ((w.alloc (.cells #[.string (mkS nl)] 9)).alloc (.cells #[.string (mkS []), .int .i64 0, .int .u64 0, .bool false] 30)).heap[w.heap.size]? = some (.cells #[.string (mkS nl)] 9 (0, 0)) := heap_alloc2_old w _ _
  have hW1 : ((w.alloc (.cells #[.string (mkS nl)] 9)).alloc (.cells #[.string (mkS []), .int .i64 0, .int .u64 0, .bool false] 30)).heap[w.heap.size + 1]? = some (.cells #[.string (mkS []), .int .i64 0, .int .u64 0, .bool false] 30 (0, 0)) := heap_alloc2_new w _ _
  have hbel : Below w.heap.size w ((w.alloc (.cells #[.string (mkS nl)] 9)).alloc (.cells #[.string (mkS []), .int .i64 0, .int .u64 0, .bool false] 30)) := ((Below.refl _ _).alloc (Nat.le_refl _) _).alloc (by simp) _
  have hcall := nl_all _ p q n cap k capk table names sections (ht.below hbel) (hn.below hbel)
  rw [← hM] at hcall
  have H := hid (And.intro hW0 (And.intro hW1 (And.intro hbel (And.intro hok hcall))))
  clear hW0 hW1 hbel hcall hok hM ht hn
  have hmf : ∀ (fn : Fn) (first cap : Array Value) (w : World), (Instr.makeFunc fn first cap).run Try.prog w = .ok (.func fn first cap) w := fun _ _ _ _ => rfl
  go_enter Try.func11, Try.ntmps11
  go_wp2_with fail
  refine (H.out.2.2.2.2).mono ?_
  rintro e w1 ⟨v, rfl, hown, hb1⟩
  obtain ⟨L, er⟩ := M
  have hLl : L.length ≤ 4096 := H.out.2.2.2.1.2
  have hss := SS.of_owns hown (by simp only; omega)
  obtain ⟨a1, c1, rfl⟩ := ownsRow_form hown
  have hz1 : w.heap.size + 2 ≤ w1.heap.size := by have := hb1.size; simpa using this
  have h0 := (hb1.block w.heap.size (by simp; omega)).trans H.out.1
  have h1 := (hb1.block (w.heap.size + 1) (by simp)).trans H.out.2.1
  have H1 := hid (And.intro hss (And.intro h0 (And.intro h1 (H.out.2.2.1.trans (hb1.mono (by simp; omega))))))
  clear hown hss h0 h1 hb1
  simp only
  go_wp2_with fail
  refine (index_fn _ _ L w.heap.size nl (by exact H1.out.1) (by exact cell_of_one H1.out.2.1)).mono ?_
  rintro e w2 ⟨rfl, hb2⟩
  have hr2 := (hb2.block (w.heap.size + 1) (by omega)).trans H1.out.2.2.1
  have hss2 := H1.out.1.below hb2
  have hbw2 := H1.out.2.2.2.trans (hb2.mono (by omega))
  have hz2 := hb2.size
  obtain ⟨⟨r0, r1, r2, r3⟩, rf⟩ := cur_cells hr2
  have H2 := hid (And.intro hss2 hbw2)
  clear hb2 hr2 hss2 hbw2
  by_cases he : er = 0
  · subst he
    by_cases hp : posM L nl < L.length
    · rw [idxM_lt hp]
      obtain ⟨s, hs⟩ : ∃ s, L[posM L nl]? = some s := ⟨_, List.getElem?_eq_getElem hp⟩
      have hf : findM (L, 0) nl = (s, true, 0) := by unfold findM; simp only [ne_eq, not_true_eq_false, if_false, hs]
      obtain ⟨g, off, rfl, hcs⟩ := H2.out.1.at (by omega)
      obtain ⟨x0, x1, x2, x3⟩ := hcs _ s hs
      have Hf := hid hf
      clear hs hcs hf
      go_wp2
      refine bodyPost_ret (v := .tuple #[.agg s.cells.toArray, .bool true, .int .i64 0]) (by simp [results, Try.results11, go_sem, Sym.cells, r0, r1, r2, r3]) rfl ?_
      rw [Hf.out]
      exact ⟨rfl, by have hb := H2.out.2; go_grown⟩
    · rw [idxM_no hp]
      have hs : L[posM L nl]? = none := List.getElem?_eq_none (by omega)
      have hf : findM (L, 0) nl = (Sym.zero, false, 0) := by unfold findM; simp only [ne_eq, not_true_eq_false, if_false, hs]
      have Hf := hid hf
      clear hs hf
      go_wp2
      refine bodyPost_ret (v := .tuple #[.agg Sym.zero.cells.toArray, .bool false, .int .i64 0]) (by simp [results, Try.results11, go_sem, Sym.cells, Sym.zero, mkS, r0, r1, r2, r3]) rfl ?_
      rw [Hf.out]
      exact ⟨rfl, by have hb := H2.out.2; go_grown⟩
  · have hf : findM (L, er) nl = (Sym.zero, false, er) := by unfold findM; rw [if_pos he]
    have Hf := hid hf
    have hne : ((er : Int) != 0) = true := by rw [bne_iff_ne]; omega
    generalize idxM L nl = iv
    clear hf he
    go_wp2
    refine bodyPost_ret (v := .tuple #[.agg Sym.zero.cells.toArray, .bool false, .int .i64 er]) (by simp [results, Try.results11, go_sem, Sym.cells, Sym.zero, mkS, r0, r1, r2, r3]) rfl ?_
    rw [Hf.out]
    exact ⟨rfl, by have hb := H2.out.2; go_grown⟩

end Go.Proofs.Ytdckfcpjdakjaaa
