/- The program's bytes of a job. -/
import Derived.Test.YtfkpbgookilhjaaGreatDoorZScF
import Derived.Test.YtfkpbgookilhjaaGreatDoorZScK
import Derived.Lib.SlBytesConst
import Derived.Deep.DeepCutAuto
namespace Go.Proofs.YtfkpbgookilhjaaGreatDoor
set_option linter.unusedSimpArgs false
set_option linter.unusedVariables false
open Go.RowKit

theorem conv_magic (w1 : World) : (convert 30 30 (.slice (some ⟨w1.heap.size, 0, none⟩) 4 4)).run Tryz.prog (w1.alloc (.cells #[.int .u8 67, .int .u8 76, .int .u8 86, .int .u8 83] 5)) = .ok (.slice (some ⟨w1.heap.size, 0, none⟩) 4 4) (w1.alloc (.cells #[.int .u8 67, .int .u8 76, .int .u8 86, .int .u8 83] 5 (4, 5))) :=
  Go.Lib.run_convert_bytes_const w1 30 5 #[.int .u8 67, .int .u8 76, .int .u8 86, .int .u8 83] 4 4 un_bsS Tryz.underlying5

set_option maxHeartbeats 1000000 in
theorem sc_bytes_no (w : World) (j : JobV) (h : JobAt w j) (hm : mayJ j.m = false) : Calls Tryz.prog 8 #[.agg j.cells] w fun e w' => e = .returned (.tuple #[.slice none 0 0, .int .i64 2]) ∧ Below w.heap.size w w' := by
  have hb0 := (Below.refl w.heap.size w).alloc (Nat.le_refl _) (.cells j.cells 27)
  have HM := hid (fun W (hb : Below w.heap.size w W) => by have := sc_may W j (h.below hb); rwa [hm] at this)
  have H0 := hid hb0
  clear hb0 h hm
  show Calls Tryz.prog 8 #[.agg #[.slice j.fp j.fs.length j.fc, .string (mkS j.main), .slice j.ip j.ins.length j.ic, .int .i64 j.arch, .int .u64 (j.base : Int), .bool j.flat]] w _
  go_enter Tryz.func8, Tryz.ntmps8
  go_wp2_with fail
  refine (HM.out _ H0.out).mono ?_
  rintro e w1 ⟨rfl, hb1⟩
  have H1 := hid (H0.out.trans (hb1.mono (by simp)))
  clear hb1
  go_wp2_with fail
  refine bodyPost_ret (v := .tuple #[.slice none 0 0, .int .i64 2]) (by simp [results, Tryz.results8, go_sem]) rfl ?_
  exact ⟨rfl, H1.out⟩

/-- What stands while a job is laid: the writer in c, its box in K, the job in b. -/
structure BIn (w1 W3 W : World) (b c K : Nat) (j : JobV) (v0 v : Value) (ys : List UInt8) : Prop where
  l : Lays w1 W3 W c v0 v ys
  kb : W.heap[K]? = some (.cells #[.pointer (some ⟨c, 0, none⟩)] 57 (0, 0))
  kv : v.ownBlock ≠ some K
  box : JobBox W b j
theorem BIn.next {w1 W3 W W' : World} {b c K : Nat} {j : JobV} {v0 v v' : Value} {ys zs : List UInt8} (h : BIn w1 W3 W b c K j v0 v ys) (hc : w1.heap.size ≤ c) (hKc : K ≠ c) (hb : b < w1.heap.size) (hr : Wr W' c w1.heap.size v' zs) (ho : Wrote W W' c v v') : BIn w1 W3 W' b c K j v0 v' zs :=
  ⟨h.l.next hc hr ho, ho.box h.kb hKc h.kv, ho.off (Array.getElem?_eq_some_iff.1 h.kb).1 h.kv, ((ho.below hc h.l.bel.size h.l.wr.high).block b hb).trans h.box⟩
theorem BIn.more {w1 W3 W W' : World} {b c K : Nat} {j : JobV} {v0 v : Value} {ys : List UInt8} (h : BIn w1 W3 W b c K j v0 v ys) (hb : Below W.heap.size W W') : BIn w1 W3 W' b c K j v0 v ys :=
  ⟨h.l.more hb, (hb.block K (Array.getElem?_eq_some_iff.1 h.kb).1).trans h.kb, h.kv, h.box.below hb⟩
theorem BIn.k0 {w1 W3 W : World} {b c K : Nat} {j : JobV} {v0 v : Value} {ys : List UInt8} (h : BIn w1 W3 W b c K j v0 v ys) : W.cell? ⟨K, 0, none⟩ = some (.pointer (some ⟨c, 0, none⟩)) := cell_of_row W K 0 _ _ _ h.kb
theorem flat_le {α β : Type} (f : α → List β) (M : Nat) : ∀ l : List α, (∀ x ∈ l, (f x).length ≤ M) → (l.flatMap f).length ≤ l.length * M
  | [], _ => by simp
  | x :: l, h => by
    have h1 := h x (by simp)
    have h2 := flat_le f M l (fun y hy => h y (by simp [hy]))
    rw [List.flatMap_cons, List.length_append, List.length_cons, Nat.add_mul]
    omega

theorem enc_bounds {w w1 : World} {j : JobV} (hj : JobAt w j) (M : MayJ j.m) (hb : Below w.heap.size w w1) (a fl : Nat) (ha : a = j.arch.toNat) (hfl : fl = flatN j.flat) :
    j.ins.length < 65536 ∧ (magicB ++ lowB a 1 ++ lowB fl 1 ++ lowB j.base 8 ++ nmB j.main).length + 2 + (j.ins.flatMap nmB).length ≤ 140737488355328 ∧ (∀ f ∈ j.fs, BS w1 (.slice f.p f.n f.cap) f.bytes) ∧ (∀ f ∈ j.fs, f.name.length ≤ 255 ∧ f.n ≤ 1048576) ∧ j.fs.length < 65536 ∧
    (magicB ++ lowB a 1 ++ lowB fl 1 ++ lowB j.base 8 ++ nmB j.main ++ lowB j.ins.length 2 ++ j.ins.flatMap nmB).length + 2 + (j.fs.flatMap encV).length ≤ 140737488355328 ∧
    j.m.enc = magicB ++ lowB a 1 ++ lowB fl 1 ++ lowB j.base 8 ++ nmB j.main ++ lowB j.ins.length 2 ++ j.ins.flatMap nmB ++ lowB j.fs.length 2 ++ j.fs.flatMap encV := by
  have h1 : j.ins.length ≤ 64 := M.insert
  have h2 : j.fs.length ≤ 64 := by have := M.files; simpa [JobV.m] using this
  have h3 : j.main.length ≤ 255 := M.main
  have h4 : (j.ins.flatMap nmB).length ≤ j.ins.length * 257 := flat_le nmB 257 j.ins (fun s hs => by have : s.length ≤ 255 := M.names s hs; rw [nmB_length]; omega)
  have h5 : ∀ f ∈ j.fs, f.name.length ≤ 255 ∧ f.bytes.length ≤ 1048576 := fun f hf => M.each f.m (List.mem_map.2 ⟨f, hf, rfl⟩)
  have h6 : (j.fs.flatMap encV).length ≤ j.fs.length * 1048837 := flat_le encV 1048837 j.fs (fun f hf => by have := h5 f hf; unfold encV; rw [enc_length]; show 6 + f.name.length + f.bytes.length ≤ _; omega)
  have h7 : ∀ f ∈ j.fs, f.n ≤ 1048576 := fun f hf => by have h := hj.each f hf; have := h.1; have := (h5 f hf).2; omega
  have h8 : j.ins.length * 257 ≤ 64 * 257 := Nat.mul_le_mul_right _ h1
  have h9 : j.fs.length * 1048837 ≤ 64 * 1048837 := Nat.mul_le_mul_right _ h2
  refine ⟨by omega, ?_, fun f hf => ((hj.each f hf).2 (by have := h7 f hf; omega)).below hb, fun f hf => ⟨(h5 f hf).1, h7 f hf⟩, by omega, ?_, ?_⟩
  · simp only [List.length_append, lowB_length, nmB_length, magicB, List.length_cons, List.length_nil]; omega
  · simp only [List.length_append, lowB_length, nmB_length, magicB, List.length_cons, List.length_nil]; omega
  · rw [ha, hfl]
    unfold JobM.enc JobV.m
    rw [List.length_map, List.flatMap_map]
    rfl

set_option maxHeartbeats 2000000 in
set_option maxRecDepth 4000 in
theorem sc_bytes_yes (w : World) (j : JobV) (h : JobAt w j) (hm : mayJ j.m = true) : Calls Tryz.prog 8 #[.agg j.cells] w fun e w' =>
    ∃ v, e = .returned (.tuple #[v, .int .i64 0]) ∧ OB w' w.heap.size 5 v j.m.enc ∧ Below w.heap.size w w' := by
  have hb0 := (Below.refl w.heap.size w).alloc (Nat.le_refl _) (.cells j.cells 27)
  have hx0 := JobBox.new w j
  have M := (mayJ_iff _).1 hm
  have HM := hid (fun W (hb : Below w.heap.size w W) => by have := sc_may W j (h.below hb); rwa [hm] at this)
  have H0 := hid (And.intro hb0 (And.intro hx0 (And.intro h M)))
  clear hb0 h hm hx0 M
  show Calls Tryz.prog 8 #[.agg #[.slice j.fp j.fs.length j.fc, .string (mkS j.main), .slice j.ip j.ins.length j.ic, .int .i64 j.arch, .int .u64 (j.base : Int), .bool j.flat]] w _
  go_enter Tryz.func8, Tryz.ntmps8
  go_wp2_with fail
  refine (HM.out _ H0.out.1).mono ?_
  rintro e w1 ⟨rfl, hb1⟩
  obtain ⟨x0, x1, x2, x3, x4, x5⟩ := (JobBox.below H0.out.2.1 hb1).at
  have H1 := hid (And.intro (H0.out.1.trans (hb1.mono (by simp))) (JobBox.below H0.out.2.1 hb1))
  clear hb1
  have hcv := conv_magic w1
  go_upto_region 4 with fail
  have hz1 := H1.out.1.size
  have e1 : (w1.alloc (.cells #[.int .u8 67, .int .u8 76, .int .u8 86, .int .u8 83] 5 (4, 5))).heap.size = w1.heap.size + 1 := by simp
  have e2 : ((w1.alloc (.cells #[.int .u8 67, .int .u8 76, .int .u8 86, .int .u8 83] 5 (4, 5))).alloc (.cells #[.slice (some ⟨w1.heap.size, 0, none⟩) 4 4] 59)).heap.size = w1.heap.size + 1 + 1 := by simp
  obtain ⟨W3, hW3⟩ : ∃ W3, W3 = (((w1.alloc (.cells #[.int .u8 67, .int .u8 76, .int .u8 86, .int .u8 83] 5 (4, 5))).alloc (.cells #[.slice (some ⟨w1.heap.size, 0, none⟩) 4 4] 59)).alloc (.cells #[.pointer (some ⟨w1.heap.size + 1, 0, none⟩)] 57)) := ⟨_, rfl⟩
  have hb3 : Below w1.heap.size w1 W3 := by rw [hW3]; exact (((Below.refl _ _).alloc (Nat.le_refl _) _).alloc (by simp) _).alloc (by simp; omega) _
  have hg3 : W3.heap[w1.heap.size]? = some (.cells (u8s magicB).toArray 5 (4, 5)) := by
    rw [hW3, Below.heap_alloc _ _ _ (by simp; omega), Below.heap_alloc _ _ _ (by simp), heap_alloc_new]; rfl
  have hc3 : W3.heap[w1.heap.size + 1]? = some (.cells #[.slice (some ⟨w1.heap.size, 0, none⟩) 4 4] 59 (0, 0)) := by
    rw [hW3, Below.heap_alloc _ _ _ (by simp), ← e1]
    exact heap_alloc_new _ _
  have hK3 : W3.heap[w1.heap.size + 1 + 1]? = some (.cells #[.pointer (some ⟨w1.heap.size + 1, 0, none⟩)] 57 (0, 0)) := by
    rw [hW3, ← e2]
    exact heap_alloc_new _ _
  rw [← hW3]
  have hJ3 := JobBox.below H1.out.2 hb3
  clear hW3 e1 e2 x0 x1 x2 x3 x4 x5 hcv
  obtain ⟨x0, x1, x2, x3, x4, x5⟩ := hJ3.at
  have k0 := cell_of_row W3 _ 0 _ _ _ hK3
  have hW0 := H1.out.1.size
  have hwl : w.heap.size < w1.heap.size := H1.out.2.lt
  have hJ1 := H1.out.2
  have har : j.arch = 1 ∨ j.arch = 2 := H0.out.2.2.2.arch
  have hml : j.main.length ≤ 255 := H0.out.2.2.2.main
  obtain ⟨a, hwa, ha, ha64⟩ : ∃ a : Nat, IntKind.u64.wrap j.arch = (a : Int) ∧ a = j.arch.toNat ∧ a < 2 ^ 64 := by
    refine ⟨j.arch.toNat, ?_, rfl, by omega⟩
    rw [IntWalk.u64_in _ (by omega)]; omega
  have H3 := hid (And.intro hb3 (And.intro hg3 (And.intro hc3 (And.intro hK3 (And.intro hJ3 (And.intro ha ha64))))))
  clear hb3 hg3 hc3 hK3 hJ3 har ha ha64 hJ1
  go_wp2_with fail
  refine (w_first W3 (w1.heap.size + 1) w1.heap.size w1.heap.size a (4, 5) H3.out.2.2.2.2.2.2 H3.out.2.2.1 H3.out.2.1 H3.out.1.size).mono ?_
  rintro e w4 ⟨rfl, v4, hwr, hwo⟩
  have hW3b := H3.out.2.2.2.1
  have hob : (Value.slice (some ⟨w1.heap.size, 0, none⟩) 4 4).ownBlock = some w1.heap.size := rfl
  have hl3 : Lays w1 W3 w4 (w1.heap.size + 1) (.slice (some ⟨w1.heap.size, 0, none⟩) 4 4) v4 (magicB ++ lowB a 1) :=
    ⟨hwr, hwo, H3.out.1.trans (hwo.below (by omega) H3.out.1.size (fun k hk => by rw [hob] at hk; cases hk; exact Nat.le_refl _))⟩
  have hi4 : BIn w1 W3 w4 w.heap.size (w1.heap.size + 1) (w1.heap.size + 1 + 1) j (.slice (some ⟨w1.heap.size, 0, none⟩) 4 4) v4 (magicB ++ lowB a 1) :=
    ⟨hl3, hwo.box hW3b (by omega) (by rw [hob]; intro e; have := Option.some.inj e; omega), hwo.off (Array.getElem?_eq_some_iff.1 hW3b).1 (by rw [hob]; intro e; have := Option.some.inj e; omega), (hl3.bel.block _ hwl).trans H1.out.2⟩
  clear hwr hwo hl3 hW3b x0 x1 x2 x3 x4 x5 k0 hob
  obtain ⟨x0, x1, x2, x3, x4, x5⟩ := hi4.box.at
  have k0 := hi4.k0
  have H4 := hid hi4
  clear hi4
  obtain ⟨fl, hfl⟩ : ∃ fl, fl = flatN j.flat := ⟨_, rfl⟩
  have hflb : fl < 2 ^ 64 := by rw [hfl]; cases j.flat <;> decide
  have Hfl := hid (And.intro hfl hflb)
  clear hfl hflb
  have HJ := hid (show JobAt w1 j ∧ _ from ⟨H0.out.2.2.1.below H1.out.1, enc_bounds H0.out.2.2.1 H0.out.2.2.2 H1.out.1 a fl H3.out.2.2.2.2.2.1 Hfl.out.1⟩)
  go_upto_region 6 with fail
  have hsp : (j.flat = true ∧ (fl : Int) = 1) ∨ (j.flat = false ∧ (fl : Int) = 0) := by
    rw [Hfl.out.1]
    rcases Bool.eq_false_or_eq_true j.flat with h | h
    · rw [h]; exact .inl ⟨rfl, rfl⟩
    · rw [h]; exact .inr ⟨rfl, rfl⟩
  rcases hsp with ⟨hjf, hfl2⟩ | ⟨hjf, hfl2⟩
  all_goals
    have hq := w_number w4 _ w1.heap.size v4 _ fl 1 1 rfl (by omega) Hfl.out.2 H4.out.l.wr (by simp [magicB, lowB_length]) H4.out.l.bel.size
    rw [hfl2] at hq
    rw [hjf] at x5
    have Hq := hid hq
    clear hq hjf hfl2
    go_wp2_with fail
    refine Hq.out.mono ?_
    rintro e w5 ⟨rfl, v5, hwr, hwo⟩
    have hi5 := H4.out.next (by omega) (by omega) hwl hwr hwo
    clear hwr hwo x0 x1 x2 x3 x4 x5 k0 Hq
    obtain ⟨x0, x1, x2, x3, x4, -⟩ := hi5.box.at
    have k0 := hi5.k0
    have H5 := hid hi5
    clear hi5
    go_wp2_with fail
    refine (w_number _ _ w1.heap.size v5 _ j.base 8 8 rfl (by omega) H0.out.2.2.1.base H5.out.l.wr (by simp [magicB, lowB_length]) H5.out.l.bel.size).mono ?_
    rintro e w6 ⟨rfl, v6, hwr, hwo⟩
    have hi6 := H5.out.next (by omega) (by omega) hwl hwr hwo
    clear hwr hwo x0 x1 x2 x3 x4 k0
    obtain ⟨x0, x1, x2, x3, x4, -⟩ := hi6.box.at
    have k0 := hi6.k0
    have H6 := hid hi6
    clear hi6
    go_wp2_with fail
    refine (w_name _ _ w1.heap.size v6 _ j.main H6.out.l.wr (by simp [magicB, lowB_length]; omega) H6.out.l.bel.size).mono ?_
    rintro e w7 ⟨rfl, v7, hwr, hwo⟩
    have hi7 := H6.out.next (by omega) (by omega) hwl hwr hwo
    clear hwr hwo x0 x1 x2 x3 x4 k0
    obtain ⟨x0, x1, x2, x3, x4, -⟩ := hi7.box.at
    have k0 := hi7.k0
    have H7 := hid hi7
    clear hi7
    go_wp2_with fail
    refine (lay_strs w1 w7 _ v7 _ j.ip j.ic j.ins H7.out.l.bel (by omega) H7.out.l.wr HJ.out.1.ins HJ.out.2.1 HJ.out.2.2.1).mono ?_
    rintro e w8 ⟨rfl, v8, hl8⟩
    have hi8 := H7.out.next (by omega) (by omega) hwl hl8.wr hl8.wo
    clear hl8 x0 x1 x2 x3 x4 k0
    obtain ⟨x0, x1, x2, x3, x4, -⟩ := hi8.box.at
    have k0 := hi8.k0
    have H8 := hid hi8
    clear hi8
    go_wp2_with fail
    refine (lay_files w1 w8 _ (w1.heap.size + 1 + 1) v8 _ j.fp j.fc j.fs H8.out.l.bel (by omega) H8.out.l.wr H8.out.kb (by omega) H8.out.kv HJ.out.1.files HJ.out.2.2.2.1 HJ.out.2.2.2.2.1 HJ.out.2.2.2.2.2.1 HJ.out.2.2.2.2.2.2.1).mono ?_
    rintro e w9 ⟨rfl, v9, hl9⟩
    have hi9 := H8.out.next (by omega) (by omega) hwl hl9.wr hl9.wo
    clear hl9 x0 x1 x2 x3 x4 k0
    obtain ⟨p9, n9, c9, hv9⟩ := OB.form3 hi9.l.wr.own
    subst hv9
    have k0 := hi9.k0
    have y0 := hi9.l.wr.cell.1
    have H9 := hid hi9
    clear hi9
    go_wp2_with fail
    refine bodyPost_ret (v := .tuple #[.slice p9 n9 c9, .int .i64 0]) (by simp [results, Tryz.results8, go_sem]) rfl ?_
    refine ⟨_, rfl, ?_, H1.out.1.trans (H9.out.l.bel.mono (by omega))⟩
    have := H9.out.l.wr.own
    rw [← HJ.out.2.2.2.2.2.2.2] at this
    exact this.base (by omega)
end Go.Proofs.YtfkpbgookilhjaaGreatDoor
