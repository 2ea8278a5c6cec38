/- The reference's SameJob, and Much. -/
import Derived.Test.YtfkpbgookilhjaaGreatDoorScT
import Derived.Deep.QuietTactic
namespace Go.Proofs.YtfkpbgookilhjaaGreatDoor
set_option linter.unusedSimpArgs false
set_option linter.unusedVariables false
open Go.RowKit

/-- Two jobs in two blocks. -/
structure TwoJ (w W : World) (a b : Nat) (A B : JobV) : Prop where
  one : JobBox W a A
  two : JobBox W b B
  bel : Below w.heap.size w W
theorem TwoJ.drewN {w W : World} {a b : Nat} {A B : JobV} (h : TwoJ w W a b A B) (q : Nat) : TwoJ w (W.drewN q) a b A B := ⟨h.one, h.two, ⟨h.bel.os, h.bel.tape, h.bel.output, h.bel.size, h.bel.block⟩⟩
theorem TwoJ.new (w : World) (A B : JobV) : TwoJ w ((w.alloc (.cells A.cells 27)).alloc (.cells B.cells 27)) w.heap.size (w.heap.size + 1) A B := by
  have e1 : (w.alloc (.cells A.cells 27)).heap.size = w.heap.size + 1 := by simp
  have b1 : Below w.heap.size w (w.alloc (.cells A.cells 27)) := (Below.refl _ _).alloc (Nat.le_refl _) _
  have r1 := heap_alloc_new w (.cells A.cells 27)
  generalize w.alloc (.cells A.cells 27) = w1 at e1 b1 r1 ⊢
  have b2 : Below w1.heap.size w1 (w1.alloc (.cells B.cells 27)) := (Below.refl _ _).alloc (Nat.le_refl _) _
  have r2 := heap_alloc_new w1 (.cells B.cells 27)
  rw [e1] at r2
  exact ⟨(b2.block _ (by omega)).trans r1, r2, b1.trans (b2.mono (by omega))⟩

set_option maxHeartbeats 4000000 in
theorem rf_same (w : World) (A B : JobV) (hA : JobAt w A) (hB : JobAt w B) (hm : A.m = B.m) (M : MayJ B.m) : Calls Tryz.prog 13 #[.agg A.cells, .agg B.cells] w fun e w' => e = .returned (.bool true) ∧ Below w.heap.size w w' := by
  obtain ⟨fp, fc, fs, main, ip, ic, ins, arch, base, flat⟩ := A
  obtain ⟨fp2, fc2, fs2, main2, ip2, ic2, ins2, arch2, base2, flat2⟩ := B
  unfold JobV.m at hm
  simp only [JobM.mk.injEq] at hm
  obtain ⟨hfs, rfl, rfl, rfl, rfl, rfl⟩ := hm
  have hlen : fs.length = fs2.length := by have := congrArg List.length hfs; simpa using this
  have e1 : ((fs.length : Int) != (fs2.length : Int)) = false := by rw [hlen]; simp
  have hinsl : ins.length ≤ 64 := M.insert
  have hfsl : fs2.length ≤ 64 := by have := M.files; simpa [JobV.m] using this
  have hfsl1 : fs.length ≤ 64 := by omega
  have hT := TwoJ.new w ⟨fp, fc, fs, main, ip, ic, ins, arch, base, flat⟩ ⟨fp2, fc2, fs2, main, ip2, ic2, ins, arch, base, flat⟩
  obtain ⟨W, hW⟩ : ∃ W, W = ((w.alloc (.cells (JobV.cells ⟨fp, fc, fs, main, ip, ic, ins, arch, base, flat⟩) 27)).alloc (.cells (JobV.cells ⟨fp2, fc2, fs2, main, ip2, ic2, ins, arch, base, flat⟩) 27)) := ⟨_, rfl⟩
  rw [← hW] at hT
  have H := hid (And.intro hT (And.intro hA (And.intro hB (And.intro hfs (And.intro hlen (And.intro M (show ((w.alloc (.cells #[.slice fp fs.length fc, .string (mkS main), .slice ip ins.length ic, .int .i64 arch, .int .u64 (base : Int), .bool flat] 27)).alloc (.cells #[.slice fp2 fs2.length fc2, .string (mkS main), .slice ip2 ins.length ic2, .int .i64 arch, .int .u64 (base : Int), .bool flat] 27)) = W from hW.symm)))))))
  clear hT hA hB hfs hlen M hW
  show Calls Tryz.prog 13 #[.agg #[.slice fp fs.length fc, .string (mkS main), .slice ip ins.length ic, .int .i64 arch, .int .u64 (base : Int), .bool flat], .agg #[.slice fp2 fs2.length fc2, .string (mkS main), .slice ip2 ins.length ic2, .int .i64 arch, .int .u64 (base : Int), .bool flat]] w _
  go_enter Tryz.func13, Tryz.ntmps13
  go_upto_region 1 with fail
  rw [H.out.2.2.2.2.2.2]
  obtain ⟨x0, x1, x2, x3, x4, x5⟩ := H.out.1.one.at
  obtain ⟨y0, y1, y2, y3, y4, y5⟩ := H.out.1.two.at
  go_wp2_with fail
  go_loopw [5] (fun t wr => ∃ k : Nat, k ≤ ins.length ∧ t = .int .i64 (k : Int) ∧ TwoJ w wr w.heap.size (w.heap.size + 1) ⟨fp, fc, fs, main, ip, ic, ins, arch, base, flat⟩ ⟨fp2, fc2, fs2, main, ip2, ic2, ins, arch, base, flat⟩) (fun t _ => ins.length - (intOf t).toNat)
  case atStart => exact ⟨0, Nat.zero_le _, rfl, H.out.1⟩
  case round =>
    clear x0 x1 x2 x3 x4 x5 y0 y1 y2 y3 y4 y5
    obtain ⟨k, hk, rfl, hi⟩ := hrel
    obtain ⟨x0, x1, x2, x3, x4, x5⟩ := hi.one.at
    obtain ⟨y0, y1, y2, y3, y4, y5⟩ := hi.two.at
    dsimp only at x0 x1 x2 x3 x4 x5 y0 y1 y2 y3 y4 y5
    by_cases hlt : k < ins.length
    · obtain ⟨s, hs⟩ : ∃ s, ins[k]? = some s := ⟨_, List.getElem?_eq_getElem hlt⟩
      obtain ⟨g1, o1, h1, z1⟩ := StrsAt.cell (RowsAt.below H.out.2.1.ins hi.bel) hs
      obtain ⟨g2, o2, h2, z2⟩ := StrsAt.cell (RowsAt.below H.out.2.2.1.ins hi.bel) hs
      dsimp only at h1 h2
      rw [h1] at x2
      rw [h2] at y2
      have hwk : IntKind.i64.wrap (k : Int) = (k : Int) := IntWalk.i64_in _ (by omega)
      have Hi := hid hi
      clear hi hs h1 h2
      go_upto_region 6 with fail
      go_quiet (fail)
      go_wp2_with fail
      exact ⟨⟨k + 1, by omega, by go_num, Hi.out.drewN _⟩, by simp [intOf]; omega⟩
    · have Hi := hid hi
      clear hi
      go_wp2_with fail
      go_loopw [6] (fun t wr => ∃ k : Nat, k ≤ fs.length ∧ t = .int .i64 (k : Int) ∧ TwoJ w wr w.heap.size (w.heap.size + 1) ⟨fp, fc, fs, main, ip, ic, ins, arch, base, flat⟩ ⟨fp2, fc2, fs2, main, ip2, ic2, ins, arch, base, flat⟩) (fun t _ => fs.length - (intOf t).toNat)
      case atStart => exact ⟨0, Nat.zero_le _, rfl, Hi.out⟩
      case round =>
        clear x0 x1 x2 x3 x4 x5 y0 y1 y2 y3 y4 y5
        obtain ⟨q, hq, rfl, hi⟩ := hrel
        obtain ⟨x0, x1, x2, x3, x4, x5⟩ := hi.one.at
        obtain ⟨y0, y1, y2, y3, y4, y5⟩ := hi.two.at
        dsimp only at x0 x1 x2 x3 x4 x5 y0 y1 y2 y3 y4 y5
        by_cases hlt2 : q < fs.length
        · obtain ⟨f, hf⟩ : ∃ f, fs[q]? = some f := ⟨_, List.getElem?_eq_getElem hlt2⟩
          obtain ⟨f2, hf2⟩ : ∃ f, fs2[q]? = some f := ⟨fs2[q]'(by have := H.out.2.2.2.2.1; omega), List.getElem?_eq_getElem _⟩
          have hff : f.m = f2.m := by
            have h1 := congrArg (fun l => l[q]?) H.out.2.2.2.1
            simpa [hf, hf2] using h1
          obtain ⟨g1, o1, h1, z1, z2⟩ := FilesAt.cell (RowsAt.below H.out.2.1.files hi.bel) hf
          obtain ⟨g2, o2, h2, z3, z4⟩ := FilesAt.cell (RowsAt.below H.out.2.2.1.files hi.bel) hf2
          have b1 := H.out.2.1.each f (List.mem_of_getElem? hf)
          have b2 := H.out.2.2.1.each f2 (List.mem_of_getElem? hf2)
          have hsm := (H.out.2.2.2.2.2.1.each f2.m (List.mem_map.2 ⟨f2, List.mem_of_getElem? hf2, rfl⟩)).2
          obtain ⟨nm, p1, n1, c1, bs⟩ := f
          obtain ⟨nm2, p2, n2, c2, bs2⟩ := f2
          unfold FileV.m at hff hsm
          simp only [FileM.mk.injEq] at hff
          obtain ⟨rfl, rfl⟩ := hff
          obtain rfl : bs.length = n1 := b1.len
          obtain rfl : bs.length = n2 := b2.len
          dsimp only at h1 h2 z1 z2 z3 z4 b1 b2 hsm
          have t1 := (b1.2 (by omega)).below hi.bel
          have t2 := (b2.2 (by omega)).below hi.bel
          rw [h1] at x0
          rw [h2] at y0
          have hlt3 : q < fs2.length := by have := H.out.2.2.2.2.1; omega
          have hwq : IntKind.i64.wrap (q : Int) = (q : Int) := IntWalk.i64_in _ (by omega)
          have Hi := hid (And.intro hi (And.intro t1 t2))
          clear hi hf hf2 h1 h2 b1 b2 t1 t2 hsm
          go_upto_region 11 with fail
          have u1 := fun q => run_toString (P := Tryz.prog) (dst := 9) (w := wr.drewN q) _ _ _ un_bsR un_u8R un_strR (Hi.out.2.1.heap rfl)
          have u2 := fun q => run_toString (P := Tryz.prog) (dst := 9) (w := wr.drewN q) _ _ _ un_bsR un_u8R un_strR (Hi.out.2.2.heap rfl)
          go_quiet (fail)
          go_wp2_with fail
          exact ⟨⟨q + 1, by omega, by go_num, Hi.out.1.drewN _⟩, by simp [intOf]; omega⟩
        · have Hj := hid hi
          clear hi
          go_wp2_with fail
          go_ret
          exact ⟨rfl, Hj.out.bel⟩
end Go.Proofs.YtfkpbgookilhjaaGreatDoor
