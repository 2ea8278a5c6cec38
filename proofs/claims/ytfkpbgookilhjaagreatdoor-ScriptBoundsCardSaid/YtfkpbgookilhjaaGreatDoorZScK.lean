/- 'append' onto a slice that is full, whosever it is: a new row of the call's own. Plain. -/
import Derived.Test.YtfkpbgookilhjaaGreatDoorZAppend
import Derived.Test.YtfkpbgookilhjaaGreatDoorZScB
namespace Go.Proofs.YtfkpbgookilhjaaGreatDoor
set_option linter.unusedSimpArgs false
set_option linter.unusedVariables false
open Go.RowKit

theorem run_append_full {P : Program} (w : World) (t tx ty e : TypeId) (i : TypeInfo) (z : Value) (size bytes : Nat) (ht : P.underlying t = some (.slice e)) (hi : P.info? e = some i) (hz : i.zero = some z)
    (hsize : i.size = size) (hby : i.bytes = bytes) (hzs : z.cells.size = size)
    (g n : Nat) (xs : List Value) (hxl : xs.length = n * size) (holds : ∀ j u, xs[j]? = some u → w.cell? ((⟨g, 0, none⟩ : Addr).add j) = some u)
    (x : Value) (m : Nat) (news : List Value) (hs : Src P size tx x m news w) (hm : 0 < m)
    (h63 : n + m ≤ maxLen) (hbytes : (n + m) * bytes ≤ 140737488355328) :
    ∃ v' w', (Builtin.append_ #[t, tx] ty #[.slice (some ⟨g, 0, none⟩) n n, x]).run P w = .ok v' w' ∧ w'.ownsRow w.heap.size e size v' (n + m) (xs ++ news) ∧ Below w.heap.size w w' := by
  subst hsize
  subst hby
  have hl := hs.newsLen
  have hlen : (xs ++ news).length = (n + m) * i.size := by rw [List.length_append, hxl, hl, Nat.add_mul]
  have hsmall : ((n + m : Nat) : Int) ≤ 9223372036854775807 := by simp only [maxLen] at h63; omega
  have hge := grownCap_ge w (n + m) n e
  have hcm : grownCap w (n + m) n e ≤ maxLen := grownCap_le_maxLen w (n + m) n e h63
  have hr := run_append_grow_src w t tx ty e i z ht hi hz (some ⟨g, 0, none⟩) n n xs (run_firstCells_some w.drew i.size n ⟨g, 0, none⟩ n n xs hxl (by simpa using holds)) x m news hs (by omega) hsmall (growslice_fits (by omega) hbytes)
  refine ⟨_, _, hr, ⟨hlen, .inr ⟨w.heap.size, _, _, rfl, Nat.le_refl _, heap_alloc_new w.drew _, hge, hcm, ?_, ?_⟩⟩, ⟨rfl, rfl, rfl, by simp, fun k hk => Below.heap_alloc w.drew _ k hk⟩⟩
  · simp only [Array.size_append, List.size_toArray, size_zeroCells, hzs, hlen, ← Nat.add_mul]
    congr 1
    omega
  · rw [Array.toList_append, ← hlen]
    exact List.take_left
/-- The same at a []byte, at a step of a region that draws its order. -/
theorem step_full {P : Program} {t e : TypeId} {i : TypeInfo} (R : U8Row P t e i) (w : World) {ops : Array Oper} {o : Oper} {a : Act} {K : Act → World → Prop} {Q : Exit → Act → World → Prop} {E : Prop} (hgd : o.guard = none) (s y : Operand) (tx : TypeId)
    (ho : o.op = .call { callee := .builtin .append, args := #[s, y], argTypes := #[t, tx] }) (g : Nat) (xs : List UInt8) (n : Nat) (hn : xs.length = n) (hsv : a.eval s = .slice (some ⟨g, 0, none⟩) n n)
    (holds : ∀ j u, (u8s xs)[j]? = some u → w.cell? ⟨g, j, none⟩ = some u) (x : Value) (ys : List UInt8) (hx : a.eval y = x) (hs : Src P 1 tx x ys.length (u8s ys) w) (hpos : 0 < ys.length)
    (hlen : xs.length + ys.length ≤ 140737488355328)
    (h : ∀ v' w', OB w' w.heap.size e v' (xs ++ ys) → Below w.heap.size w w' → K (a.put o.dst v') w') : if Region.wanted o (yielded ops a.tmps) = true then Oper.wp P o a w K Q else E := by
  have hw : Region.wanted o (yielded ops a.tmps) = true := by simp [Region.wanted, hgd]
  rw [if_pos hw]
  subst hn
  have ea : ∀ j, (⟨g, 0, none⟩ : Addr).add j = ⟨g, j, none⟩ := fun j => by unfold Addr.add; split <;> simp_all
  obtain ⟨v', w', hr, h2, h3⟩ := run_append_full w t tx o.type e i _ 1 1 R.un R.hi R.z R.size R.bytes rfl g xs.length (u8s xs) (by simp [u8s]) (fun j u hu => by rw [ea]; exact holds j u hu) x ys.length (u8s ys) hs hpos (Nat.le_trans hlen (by decide)) (by omega)
  unfold Oper.wp execOp
  simp only [ho, resolve, invoke, builtin, Sem.run_bind, Sem.run_pure, Result.andThen_ok, List.map_toArray, List.map_cons, List.map_nil, hsv, hx, hr]
  exact h v' w' (by unfold OB; rw [List.length_append, u8s_app]; exact h2) h3
end Go.Proofs.YtfkpbgookilhjaaGreatDoor

namespace Go.Proofs.YtfkpbgookilhjaaGreatDoor
set_option linter.unusedSimpArgs false
set_option linter.unusedVariables false
open Go.RowKit

theorem magic_cells {w : World} {g : Nat} {C : Array Value} {t : TypeId} {fr : Nat × Nat} (hC : C = (u8s magicB).toArray) (h : w.heap[g]? = some (.cells C t fr)) : ∀ j u, (u8s magicB)[j]? = some u → w.cell? ⟨g, j, none⟩ = some u := by
  subst hC
  intro j u hu
  have hj := (List.getElem?_eq_some_iff.1 hu).1
  simp only [World.cell?, h]
  simpa using hu

set_option maxHeartbeats 1000000 in
theorem w_first (w : World) (c g B n : Nat) (fr : Nat × Nat) (hn : n < 2 ^ 64) (hbox : w.heap[c]? = some (.cells #[.slice (some ⟨g, 0, none⟩) 4 4] 59 (0, 0))) (hg : w.heap[g]? = some (.cells (u8s magicB).toArray 5 fr)) (hB : B ≤ w.heap.size) :
    Calls Tryz.prog 22 #[.pointer (some ⟨c, 0, none⟩), .int .u64 n, .int .i64 1] w (WrEnd w c B (.slice (some ⟨g, 0, none⟩) 4 4) (magicB ++ lowB n 1)) := by
  obtain ⟨i, R⟩ := u8rowS
  have x0 := cell_of_row w c 0 _ _ _ hbox
  have xf := frozen_of_row w c 0 _ _ hbox
  have hlc := (Array.getElem?_eq_some_iff.1 hbox).1
  have hcells := magic_cells rfl hg
  have hgl := (Array.getElem?_eq_some_iff.1 hg).1
  obtain ⟨y, hy⟩ : ∃ y : UInt8, y = UInt8.ofNat (n % 256) := ⟨_, rfl⟩
  have hby : IntKind.u8.wrap ((n : Int) / 2 ^ (0 : Int).toNat) = (y.toNat : Int) := by
    rw [IntKind.wrap_u8, hy]; simp
  have H := hid (And.intro R (And.intro hbox (And.intro hcells (And.intro hby (And.intro hy hgl)))))
  clear R hbox hg hcells hby hy
  go_enter Tryz.func22, Tryz.ntmps22
  go_wp2_with fail
  go_loopw [8] (fun i wr => (i = .int .i64 0 ∧ wr = w) ∨ (i = .int .i64 1 ∧ WrEnd w c B (.slice (some ⟨g, 0, none⟩) 4 4) (magicB ++ lowB n 1) (.returned (.tuple #[])) wr)) (fun i _ => 2 - (intOf i).toNat)
  case atStart => exact .inl ⟨rfl, rfl⟩
  case round =>
    rcases hrel with ⟨rfl, rfl⟩ | ⟨rfl, he⟩
    · have hw0 : IntKind.i64.wrap 0 = 0 := by decide
      go_upto_region 3 with fail
      go_region_law (refine step_full H.out.1 _ rfl _ _ _ rfl g magicB 4 rfl rfl (fun j u hu => below_cell' (((Below.refl _ _).alloc (Nat.le_refl _) _).drew) H.out.2.2.2.2.2 (H.out.2.2.1 j u hu)) _ [y] rfl (src_byteD wr un_bsS _ y (by rw [H.out.2.2.2.2.1]; simp [IntKind.wrap_u8]) _ rfl) (by simp) (by simp [magicB]) ?_; intro v2 W2 hown2 hb2; have hBl : Below wr.heap.size wr W2 := (((Below.refl _ _).alloc (Nat.le_refl _) _).drew).trans (hb2.mono (by show wr.heap.size ≤ (wr.alloc _).heap.size; rw [World.size_alloc]; exact Nat.le_succ _)); have x0' : W2.cell? ⟨c, 0, none⟩ = some (.slice (some ⟨g, 0, none⟩) 4 4) := below_cell' hBl hlc x0; have xf' : W2.frozen? ⟨c, 0, none⟩ = false := frozen_of_row W2 c 0 _ _ ((hBl.block c hlc).trans H.out.2.1); obtain ⟨p2, n2, c2, hv2⟩ := OB.form3 hown2; subst hv2; have H2 := hid (And.intro hown2 hBl); clear hown2 hb2 hBl)
      all_goals
        go_wp2_with fail
        have hbx := (H2.out.2.block c hlc).trans H.out.2.1
        have hne : (Value.slice p2 n2 c2).ownBlock ≠ some c := fun e => by have := H2.out.1.high c e; simp at this; omega
        have hl1 : magicB ++ lowB n 1 = magicB ++ [y] := by rw [H.out.2.2.2.2.1]; rfl
        have hkept : W2.grownBy (W2.setCell ⟨c, 0, none⟩ (.slice p2 n2 c2)) (some c) := ⟨rfl, rfl, rfl, by simp [World.setCell], fun k hk hr => heap_setCell_other W2 _ k _ (fun e => hr (by simp at e; rw [e]))⟩
        refine ⟨.inr ⟨rfl, rfl, .slice p2 n2 c2, ⟨heap_setCell_same _ _ _ _ _ _ hbx, ?_, hne⟩, ⟨H2.out.2.os, H2.out.2.tape, H2.out.2.output, by simpa [World.setCell] using H2.out.2.size, fun k hk hkc hv => ?_, .inr ?_⟩⟩, by simp [intOf]⟩
        · rw [hl1]
          exact World.ownsRow.kept (ownsRow_base H2.out.1 (by simp; omega)) hkept (.inr hne)
        · exact (heap_setCell_other W2 _ k _ (by simpa using hkc)).trans (H2.out.2.block k hk)
        · rcases H2.out.1.2 with ⟨-, h0⟩ | ⟨g', cap', cur', he, hbg, -⟩
          · simp at h0
          · cases he
            refine ⟨g', rfl, Nat.le_trans ?_ hbg⟩
            show wr.heap.size ≤ (wr.alloc _).heap.size
            rw [World.size_alloc]
            exact Nat.le_succ _
    · have He := hid he
      clear he
      go_wp2_with fail
      go_end0
      exact He.out
end Go.Proofs.YtfkpbgookilhjaaGreatDoor
