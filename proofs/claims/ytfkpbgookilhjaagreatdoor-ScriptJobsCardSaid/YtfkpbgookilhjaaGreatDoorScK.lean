/- 'append' onto a slice that is full, whosever it is: a new row of the call's own. Plain. -/
import Derived.Test.YtfkpbgookilhjaaGreatDoorGrew
namespace Go.Proofs.YtfkpbgookilhjaaGreatDoor
set_option linter.unusedSimpArgs false
set_option linter.unusedVariables false
open Go.RowKit

theorem run_append_full {P : Program} (w : World) (t tx ty e : TypeId) (i : TypeInfo) (z : Value) (size bytes : Nat) (ht : P.underlying t = some (.slice e)) (hi : P.info? e = some i) (hz : i.zero = some z)
    (hsize : i.size = size) (hby : i.bytes = bytes) (hzs : z.cells.size = size)
    (g n : Nat) (xs : List Value) (hxl : xs.length = n * size) (holds : ∀ j u, xs[j]? = some u → w.cell? ((⟨g, 0, none⟩ : Addr).add j) = some u)
    (x : Value) (m : Nat) (news : List Value) (hs : Src P size tx x m news w) (hm : 0 < m)
    (h63 : n + m ≤ maxLen) (hbytes : (n + m) * bytes ≤ 140737488355328) :
    ∃ v' w', (Builtin.append_ #[t, tx] ty #[.slice (some ⟨g, 0, none⟩) n n, x]).run P w = .ok v' w' ∧ w'.ownsRow w.heap.size e size v' (n + m) (xs ++ news) ∧ Below w.heap.size w w' := by
  subst hsize
  subst hby
  have hl := hs.newsLen
  have hlen : (xs ++ news).length = (n + m) * i.size := by rw [List.length_append, hxl, hl, Nat.add_mul]
  have hsmall : ((n + m : Nat) : Int) ≤ 9223372036854775807 := by simp only [maxLen] at h63; omega
  have hge := grownCap_ge w (n + m) n e
  have hcm : grownCap w (n + m) n e ≤ maxLen := grownCap_le_maxLen w (n + m) n e h63
  have hr := run_append_grow_src w t tx ty e i z ht hi hz (some ⟨g, 0, none⟩) n n xs (run_firstCells_some w.drew i.size n ⟨g, 0, none⟩ n n xs hxl (by simpa using holds)) x m news hs (by omega) hsmall (growslice_fits (by omega) hbytes)
  refine ⟨_, _, hr, ⟨hlen, .inr ⟨w.heap.size, _, _, rfl, Nat.le_refl _, heap_alloc_new w.drew _, hge, hcm, ?_, ?_⟩⟩, ⟨rfl, rfl, rfl, by simp, fun k hk => Below.heap_alloc w.drew _ k hk⟩⟩
  · simp only [Array.size_append, List.size_toArray, size_zeroCells, hzs, hlen, ← Nat.add_mul]
    congr 1
    omega
  · rw [Array.toList_append, ← hlen]
    exact List.take_left
/-- The same at a []byte, at a step of a region that draws its order. -/
theorem step_full {P : Program} {t e : TypeId} {i : TypeInfo} (R : U8Row P t e i) (w : World) {ops : Array Oper} {o : Oper} {a : Act} {K : Act → World → Prop} {Q : Exit → Act → World → Prop} {E : Prop} (hgd : o.guard = none) (s y : Operand) (tx : TypeId)
    (ho : o.op = .call { callee := .builtin .append, args := #[s, y], argTypes := #[t, tx] }) (g : Nat) (xs : List UInt8) (n : Nat) (hn : xs.length = n) (hsv : a.eval s = .slice (some ⟨g, 0, none⟩) n n)
    (holds : ∀ j u, (u8s xs)[j]? = some u → w.cell? ⟨g, j, none⟩ = some u) (x : Value) (ys : List UInt8) (hx : a.eval y = x) (hs : Src P 1 tx x ys.length (u8s ys) w) (hpos : 0 < ys.length)
    (hlen : xs.length + ys.length ≤ 140737488355328)
    (h : ∀ v' w', OB w' w.heap.size e v' (xs ++ ys) → Below w.heap.size w w' → K (a.put o.dst v') w') : if Region.wanted o (yielded ops a.tmps) = true then Oper.wp P o a w K Q else E := by
  have hw : Region.wanted o (yielded ops a.tmps) = true := by simp [Region.wanted, hgd]
  rw [if_pos hw]
  subst hn
  have ea : ∀ j, (⟨g, 0, none⟩ : Addr).add j = ⟨g, j, none⟩ := fun j => by unfold Addr.add; split <;> simp_all
  obtain ⟨v', w', hr, h2, h3⟩ := run_append_full w t tx o.type e i _ 1 1 R.un R.hi R.z R.size R.bytes rfl g xs.length (u8s xs) (by simp [u8s]) (fun j u hu => by rw [ea]; exact holds j u hu) x ys.length (u8s ys) hs hpos (Nat.le_trans hlen (by decide)) (by omega)
  unfold Oper.wp execOp
  simp only [ho, resolve, invoke, builtin, Sem.run_bind, Sem.run_pure, Result.andThen_ok, List.map_toArray, List.map_cons, List.map_nil, hsv, hx, hr]
  exact h v' w' (by unfold OB; rw [List.length_append, u8s_app]; exact h2) h3
end Go.Proofs.YtfkpbgookilhjaaGreatDoor
